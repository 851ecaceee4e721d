/- Law 7: what is short, which outcomes are the same. Conditions: none. -/
import Derived.Test.YtkflggjdlflndaaGreatZJ
import Derived.Test.YtkflggjdlflndaaGreatL1
set_option linter.unusedSimpArgs false
set_option linter.unusedVariables false
namespace Go.Proofs.YtkflggjdlflndaaGreat
open Go Go.Ab
variable {ext : Sem'}
def light7 (inp : List Int) (fails : List Bool) (fuel : Int) : Bool := decide (inp.length ≤ 200) && (decide (fails.length ≤ 200) && (decide (0 ≤ fuel) && decide (fuel ≤ 3000)))
theorem light7_e (hx : TX ext) (inp : List Int) (fails : List Bool) (fuel : Int) : G ext 8 [.d (.sl (inp.map rowU)), .d (.sl (fails.map rowT)), .d (.int .i64 fuel)] [] = some (.ret (.d (.bool (light7 inp fails fuel))), []) := by
  have h1 : (inp.map rowU).length = inp.length := List.length_map _
  have h2 : (fails.map rowT).length = fails.length := List.length_map _
  unfold light7
  rw [G_body hx.clear rfl Tryz.func8 rfl Tryz.results8 hv_8 rfl]
  by_cases q1 : (inp.length : Int) ≤ 200
  · rw [decide_eq_true (show inp.length ≤ 200 by omega)]
    by_cases q2 : (fails.length : Int) ≤ 200
    · rw [decide_eq_true (show fails.length ≤ 200 by omega)]
      by_cases q3 : 0 ≤ fuel
      · rw [decide_eq_true q3]
        by_cases q4 : fuel ≤ 3000
        · rw [decide_eq_true q4]
          simp (maxSteps := 4000000) (disch := first | (intros; contradiction) | omega) only [go_sem, h1, h2, q1, q2, q3, q4]
          done
        · rw [decide_eq_false q4]
          simp (maxSteps := 4000000) (disch := first | (intros; contradiction) | omega) only [go_sem, h1, h2, q1, q2, q3, q4]
          done
      · rw [decide_eq_false q3]
        simp (maxSteps := 4000000) (disch := first | (intros; contradiction) | omega) only [go_sem, h1, h2, q1, q2, q3]
        done
    · rw [decide_eq_false (show ¬ fails.length ≤ 200 by omega)]
      simp (maxSteps := 4000000) (disch := first | (intros; contradiction) | omega) only [go_sem, h1, h2, q1, q2]
      done
  · rw [decide_eq_false (show ¬ inp.length ≤ 200 by omega)]
    simp (maxSteps := 4000000) (disch := first | (intros; contradiction) | omega) only [go_sem, h1, h2, q1]
    done
/-- Bytes. -/
def isB (l : List Int) : Prop := ∀ x, x ∈ l → 0 ≤ x ∧ x < 256
def toB (l : List Int) : List UInt8 := l.map fun n => UInt8.ofNat n.toNat
theorem bytesR_rowU : ∀ {l : List Int}, isB l → bytesR (l.map rowU) = some (toB l)
  | [], _ => rfl
  | x :: l, h => by
    have hx := h x (by simp)
    have ih := bytesR_rowU (l := l) (fun y hy => h y (by simp [hy]))
    show byteC x (bytesR (l.map rowU)) = _
    rw [ih]
    unfold byteC
    rw [if_pos hx]
    rfl
theorem toB_inj : ∀ {a b : List Int}, isB a → isB b → toB a = toB b → a = b
  | [], [], _, _, _ => rfl
  | x :: a, y :: b, ha, hb, h => by
    simp only [toB, List.map_cons, List.cons.injEq] at h
    obtain ⟨h1, h2⟩ := h
    have hx := ha x (by simp)
    have hy := hb y (by simp)
    have h3 := congrArg UInt8.toNat h1
    simp only [UInt8.toNat_ofNat'] at h3
    have : x = y := by omega
    subst this
    rw [toB_inj (fun z hz => ha z (by simp [hz])) (fun z hz => hb z (by simp [hz])) h2]
  | [], _ :: _, _, _, h => by simp [toB] at h
  | _ :: _, [], _, _, h => by simp [toB] at h
def outV (k c : Int) (o : List Int) (st lf : Int) : AV := .agg [.d (.int .i64 k), .d (.int .i64 c), .d (.sl (o.map rowU)), .d (.int .i64 st), .d (.int .i64 lf)]
set_option maxHeartbeats 2000000 in
theorem same_e (hx : TX ext) {k c st lf k2 c2 st2 lf2 : Int} {o o2 : List Int} (ho : isB o) (ho2 : isB o2) : G ext 10 [outV k c o st lf, outV k2 c2 o2 st2 lf2] [] = some (.ret (.d (.bool (decide (k = k2) && (decide (c = c2) && (decide (o = o2) && (decide (st = st2) && decide (lf = lf2))))))), []) := by
  have b1 := bytesR_rowU ho
  have b2 := bytesR_rowU ho2
  have hq : (toB o = toB o2) ↔ o = o2 := ⟨toB_inj ho ho2, fun h => by rw [h]⟩
  unfold outV
  rw [G_body hx.clear rfl Tryz.func10 rfl Tryz.results10 hv_10 rfl]
  by_cases q1 : k = k2
  · rw [decide_eq_true q1]
    have q1 := eq_true q1
    by_cases q2 : c = c2
    · rw [decide_eq_true q2]
      have q2 := eq_true q2
      by_cases q3 : o = o2
      · rw [decide_eq_true q3]
        have q3' := eq_true (hq.2 q3)
        by_cases q4 : st = st2
        · rw [decide_eq_true q4]
          have q4 := eq_true q4
          by_cases q5 : lf = lf2
          · rw [decide_eq_true q5]
            have q5 := eq_true q5
            simp (maxSteps := 4000000) (disch := first | (intros; contradiction) | omega) only [go_sem, b1, b2, q1, q2, q3', q4, q5]
            done
          · rw [decide_eq_false q5]
            simp (maxSteps := 4000000) (disch := first | (intros; contradiction) | omega) only [go_sem, b1, b2, q1, q2, q3', q4, q5]
            done
        · rw [decide_eq_false q4]
          simp (maxSteps := 4000000) (disch := first | (intros; contradiction) | omega) only [go_sem, b1, b2, q1, q2, q3', q4]
          done
      · rw [decide_eq_false q3]
        have q3' : ¬ toB o = toB o2 := fun h => q3 (hq.1 h)
        simp (maxSteps := 4000000) (disch := first | (intros; contradiction) | omega) only [go_sem, b1, b2, q1, q2, q3']
        done
    · rw [decide_eq_false q2]
      simp (maxSteps := 4000000) (disch := first | (intros; contradiction) | omega) only [go_sem, b1, b2, q1, q2]
      done
  · rw [decide_eq_false q1]
    simp (maxSteps := 4000000) (disch := first | (intros; contradiction) | omega) only [go_sem, b1, b2, q1]
    done
/-- What a machine puts out are bytes. -/
theorem wrap8 (n : Int) : 0 ≤ IntKind.wrap .u8 n ∧ IntKind.wrap .u8 n < 256 := by
  simp only [IntKind.wrap, IntKind.bits, IntKind.signed]
  simp
  omega
theorem num_isB {s : Mc} (h : isB s.out) (i : In1) (vk : Nat) (l : List Vl) : isB (numbersP s i vk l).2.out := by
  unfold numbersP
  split
  · exact h
  split
  · exact h
  split
  · unfold getP
    split <;> exact h
  split
  · intro x hx
    rcases List.mem_append.1 hx with hx | hx
    · exact h x hx
    · rw [List.mem_singleton] at hx
      rw [hx]; exact wrap8 _
  split
  · exact h
  · exact h
theorem step_isB {s : Mc} (h : isB s.out) : isB (stepM s).out := by
  unfold stepM
  split
  · exact h
  · split
    · split
      · split
        · split
          · exact h
          split
          · exact h
          split
          · split <;> exact h
          split
          · rw [(leaveP_keep _ _).2.2.2.2.2]; exact h
          · split
            · split
              · rw [heap_out]; exact num_isB (s := Mc.next s _ _ _ _ _ _ _) h _ _ _
              · show isB (heapM _ _ _ _).2.out
                rw [heap_out]; exact num_isB (s := Mc.next s _ _ _ _ _ _ _) h _ _ _
            · exact num_isB (s := Mc.next s _ _ _ _ _ _ _) h _ _ _
        · exact h
      · exact h
    · exact h
theorem run_isB {s : Mc} (h : isB s.out) : ∀ j, isB (runM j s).out
  | 0 => h
  | j + 1 => by
    rw [runM_succ]
    split
    · exact step_isB (run_isB h j)
    · exact run_isB h j
end Go.Proofs.YtkflggjdlflndaaGreat
