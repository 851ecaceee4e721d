/- solve's search: its model, what is assumed, what comes next. Conditions: none. -/
import Derived.Test.YtchedkjlhjfadaaS3
set_option linter.unusedSimpArgs false
set_option linter.unusedVariables false
namespace Go.Proofs.Ytchedkjlhjfadaa
open Go Go.Ab
variable {ext : Sem'}
def avB (b : Bool) : AV := .d (.bool b)
theorem avB_refs : ∀ l : List Bool, (List.map refs (List.map avB l)).flatten = []
  | [] => rfl
  | x :: l => by simp only [List.map_cons, List.flatten_cons, avB_refs l]; rfl
theorem avB_ren (f : Nat → Nat) : ∀ l : List Bool, List.map (ren f) (List.map avB l) = List.map avB l
  | [] => rfl
  | x :: l => by simp only [List.map_cons, avB_ren f l]; rfl
theorem dataB (l : List Bool) : dataAs (l.map avB) = some (l.map Dt.bool) := by
  induction l with
  | nil => rfl
  | cons x l ih => simp only [List.map_cons, dataAs, avB, dataA, ih]
theorem chunkB (l : List Bool) : chunk 1 l.length (l.map Dt.bool) = l.map rowB := by
  induction l with
  | nil => rfl
  | cons x l ih => simp only [List.length_cons, List.map_cons, chunk, List.take_succ_cons, List.take_zero, List.drop_succ_cons, List.drop_zero, ih]; rfl
theorem setB {l : List Bool} {a : Nat} {y : Bool} (h : a < l.length) : List.take a (List.map avB l) ++ [.d (.bool y)] ++ List.drop (a + 1) (List.map avB l) = (l.set a y).map avB := by
  rw [List.set_eq_take_append_cons_drop, if_pos h, List.map_append, List.map_cons, List.map_take, List.map_drop, List.append_assoc]
  rfl
theorem falsesB (m : Nat) : (List.replicate m [AV.d (.bool false)]).flatten = (List.replicate m false).map avB := by
  induction m with
  | zero => rfl
  | succ k ih => rw [List.replicate_succ, List.flatten_cons, ih]; rfl
section
variable (n : Nat) (fl : List (List Int))
set_option maxHeartbeats 1000000 in
theorem model_e (hx : TX ext) (hn : n ≤ 100000) (val : Nat → Int) (h3 : lits3 val) (e k : Nat) (cs : List AV) (hc : DC cs) (steps : Int) : G ext 79 [.ptr 0 0] (srcO n fl val e k cs steps) = some (.ret (.d (.sl ((modelL val n).map rowB))), srcO n fl val e k cs steps) := by
  have a1 := fun l => av_refs l
  have a2 := fun l f => av_ren f l
  have b1 := fun l => avB_refs l
  have b2 := fun l f => avB_ren f l
  have c1 := hc.r1
  have c2 := hc.r2
  obtain ⟨m, hm⟩ : ∃ m, m = n := ⟨_, rfl⟩
  have hroom : room m 1 := by unfold room; simp; omega
  have h0 : (0 : Int) ≤ (n : Int) := by omega
  have hz := falsesB m
  have e0 : ((n : Int)).toNat = m := by omega
  rw [G_body hx.clear rfl Try.func79 rfl Try.results79 hv_79 rfl]
  unfold srcO
  rw [hm] at hz hroom e0
  simp (config := { maxSteps := 4000000 }) (disch := first | (intros; contradiction) | omega) only [go_sem, hroom, h0, Int.le_refl, e0, hz, a1, c1, b1]
  generalize hL : loopA _ _ _ = L
  apply loop_upd hL (by simp (config := { maxSteps := 4000000 }) (disch := first | (intros; contradiction) | omega) only [go_sem, a1, c1, b1] <;> rfl) (α := Nat × List Bool) (fun s => s.1 ≤ n ∧ s.2.length = n ∧ ∀ i, i < s.1 → s.2[i]? = some (decide (0 < val (i + 1)))) (fun s => n - s.1)
    (fun s => [(4, .any), (13, .d (.int .i64 s.1))]) (fun s => [(4, .cells (s.2.map avB))]) (0, List.replicate n false) (by simp (config := { maxSteps := 4000000 }) (disch := first | (intros; contradiction) | omega) only [go_sem] <;> rfl) ⟨by simp, by simp, by simp⟩ ?_
  rintro ⟨j, bl⟩ ⟨i1, i2, i3⟩ next ih
  simp only at i1 i2 i3 ih ⊢
  clear hL
  by_cases hj : j < n
  · have hlt : (j : Int) < (n : Int) := by omega
    have hj0 : (0 : Int) ≤ (j : Int) := by omega
    have hb : (0 : Int) ≤ (j : Int) + 1 ∧ (j : Int) + 1 < ((n + 1 : Nat) : Int) := by omega
    have hb2 : (0 : Int) ≤ (j : Int) ∧ (j : Int) < (n : Int) := by omega
    have hw : IntKind.wrap .i64 ((j : Int) + 1) = (j : Int) + 1 := wrap64 (by omega) (by omega)
    have hj1 : ((j : Int) + 1).toNat = j + 1 := by omega
    have hv := vals_at (n := n) (i := j + 1) val (by omega)
    have hs := setB (l := bl) (a := j) (y := decide (0 < val (j + 1))) (by omega)
    have hr : j + 1 ≤ (bl.map avB).length := by rw [List.length_map]; omega
    simp (config := { maxSteps := 4000000 }) (disch := first | (intros; contradiction) | omega) only [go_sem, hlt, hj0, hb, hb2, hw, hj1, hv, hs, hr, Nat.mul_one, a1, a2, b1, b2, c1, c2]
    refine ih (j + 1, bl.set j (decide (0 < val (j + 1)))) _ ⟨hj, by simpa using i2, fun i hi => ?_⟩ (by simp only; omega) (by simp (config := { maxSteps := 4000000 }) (disch := first | (intros; contradiction) | omega) only [go_sem, a1, a2, b1, b2, c1, c2] <;> rfl)
    by_cases hij : j = i
    · subst hij; rw [List.getElem?_set_self (by omega)]
    · rw [List.getElem?_set_ne hij]; exact i3 i (by omega)
  · have hlt : ¬ (j : Int) < (n : Int) := by omega
    have hbl : bl = modelL val n := by
      apply List.ext_getElem?
      intro i
      by_cases hi : i < n
      · rw [i3 i (by omega)]
        unfold modelL
        rw [List.getElem?_map, List.getElem?_range hi]
        rfl
      · rw [List.getElem?_eq_none (by omega), List.getElem?_eq_none (by rw [modelL_length]; omega)]
    subst hbl
    have hll : (List.map avB (modelL val n)).length = n := by rw [List.length_map, modelL_length]
    have hd := dataB (modelL val n)
    have hch := chunkB (modelL val n)
    rw [modelL_length] at hch
    have htk : List.take n (List.map avB (modelL val n)) = List.map avB (modelL val n) := List.take_of_length_le (by omega)
    simp (config := { maxSteps := 4000000 }) (disch := first | (intros; contradiction) | omega) only [go_sem, hlt, hll, hd, hch, htk, Nat.mul_one, Nat.le_refl, a1, a2, b1, b2, c1, c2]
    done
end
end Go.Proofs.Ytchedkjlhjfadaa
