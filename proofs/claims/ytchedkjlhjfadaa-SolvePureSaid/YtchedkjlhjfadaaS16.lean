/- The document's models of a formula with literals: the first. Conditions: none. -/
import Derived.Test.YtchedkjlhjfadaaS15
set_option linter.unusedSimpArgs false
set_option linter.unusedVariables false
namespace Go.Proofs.Ytchedkjlhjfadaa
open Go Go.Ab
variable {ext : Sem'}
def rowM (m : List Bool) : List Dt := [.sl (m.map rowB)]
def withP (f : Fm) (lits : List Int) : Fm := ⟨f.n, f.l ++ lits.map fun x => [x]⟩
theorem fits_rows (l : List (List Int)) : fits 1 (l.map rowC) := by intro row h; obtain ⟨x, _, rfl⟩ := List.mem_map.1 h; rfl
set_option maxHeartbeats 1000000 in
theorem with_e (hx : TX ext) (f : Fm) (lits : List Int) (h1 : f.l.length ≤ 10000) (h2 : lits.length ≤ 10000) : G ext 32 [f.av, .d (.sl (lits.map rowI))] [] = some (.ret (withP f lits).av, []) := by
  have hfl : (f.l.map rowC).length = f.l.length := List.length_map _
  have hfit := fits_rows
  have hroom : room (f.l.map rowC).length 24 := by unfold room; simp; omega
  rw [G_body hx.clear rfl Try.func32 rfl Try.results32 hv_32 rfl]
  unfold withP
  simp only [Fm.av]
  simp (config := { maxSteps := 4000000 }) (disch := first | (intros; contradiction) | omega) only [go_sem, hfit, hroom, Nat.zero_add, List.nil_append]
  generalize hL : loopA _ _ _ = L
  apply range_upd hL (by simp (config := { maxSteps := 4000000 }) (disch := first | (intros; contradiction) | omega) only [go_sem] <;> rfl) lits rowI (α := Nat) (fun _ _ _ => True) (fun k e => [(6, .d (.int .i64 k))]) (fun k e => [(3, .grow e 1), (5, .cells [.d (.int .i64 f.n), .grow 3 e ((f.l ++ (lits.take k).map fun x => [x]).map rowC)])]) 1 (by simp (config := { maxSteps := 4000000 }) (disch := first | (intros; contradiction) | omega) only [go_sem, List.take_zero, List.map_nil, List.append_nil] <;> rfl) trivial ?_ ?_
  · rintro x rest k e _ hlt hr hget hk _ next ih
    clear hL
    simp only [rowI] at hr
    have hk0 : (0 : Int) ≤ (k : Int) := by omega
    have hsn : (f.l ++ (lits.take (k + 1)).map fun x => [x]) = (f.l ++ (lits.take k).map fun x => [x]) ++ [[x]] := by rw [List.take_add_one, hget]; simp
    have hle : (f.l ++ (lits.take k).map fun x => [x]).length ≤ 20000 := by simp; omega
    generalize (f.l ++ (lits.take k).map fun x => [x]) = l at hsn hle
    have hll : (l.map rowC).length = l.length := List.length_map _
    have hroom2 : room ((l.map rowC).length + 1) 24 := by unfold room; simp; omega
    simp (config := { maxSteps := 4000000 }) (disch := first | (intros; contradiction) | omega) only [go_sem, hlt, hr, hk0, hroom2, wrap64]
    exact ih (e + 1) _ trivial (by simp (config := { maxSteps := 4000000 }) (disch := first | (intros; contradiction) | omega) only [go_sem, hsn, List.map_append, List.map_cons, List.map_nil, rowC, rowI] <;> rfl)
  · rintro k e _ hlt hk next
    clear hL
    have etk : lits.take k = lits := by rw [hk, List.take_length]
    rw [etk]
    simp (config := { maxSteps := 4000000 }) (disch := first | (intros; contradiction) | omega) only [go_sem, hlt]
def modsF (f : Fm) (n i : Nat) : List (List Bool) := ((List.range i).map (bitsL n)).filter (evalP f)
theorem modsF_succ (f : Fm) (n i : Nat) : modsF f n (i + 1) = modsF f n i ++ if evalP f (bitsL n i) = true then [bitsL n i] else [] := by
  unfold modsF
  rw [List.range_succ, List.map_append, List.filter_append]
  congr 1
  by_cases h : evalP f (bitsL n i) = true
  · simp [h]
  · simp [h]
def firstP (f : Fm) : List (List Bool) := if rightP f = true ∧ f.n ≤ 12 then (modsF f f.n.toNat (2 ^ f.n.toNat)).take 1 else []
theorem modsF_pre (f : Fm) (n : Nat) {i j : Nat} (h : i ≤ j) : ∃ t, modsF f n j = modsF f n i ++ t := by
  induction j with
  | zero =>
    have h0 : i = 0 := by omega
    rw [h0]
    exact ⟨[], by simp⟩
  | succ j ih =>
    by_cases he : i = j + 1
    · subst he; exact ⟨[], by simp⟩
    · obtain ⟨t, ht⟩ := ih (by omega)
      rw [modsF_succ, ht]
      exact ⟨_, List.append_assoc _ _ _⟩
set_option maxHeartbeats 2000000 in
theorem models_e (hx : TX ext) (f : Fm) (hs : Short f) : G ext 15 [f.av, .d (.int .i64 1)] [] = some (.ret (.d (.sl ((firstP f).map rowM))), []) := by
  have hrt := rright_e hx f hs
  unfold firstP
  cases hr : rightP f with
  | false =>
    rw [hr] at hrt
    rw [if_neg (by simp)]
    simp only [Fm.av] at hrt
    rw [G_body hx.clear rfl Try.func15 rfl Try.results15 hv_15 rfl]
    simp only [Fm.av]
    simp (config := { maxSteps := 4000000 }) (disch := first | (intros; contradiction) | omega) only [go_sem, hrt, List.map_nil]
  | true =>
    rw [hr] at hrt
    obtain ⟨h0, _, _⟩ := right_inv hr
    by_cases hn : f.n ≤ 12
    · rw [if_pos ⟨rfl, hn⟩]
      obtain ⟨n, hnn⟩ : ∃ n : Nat, f.n = (n : Int) := ⟨f.n.toNat, by omega⟩
      have hev := fun m => reval_e hx f hs m
      obtain ⟨fn, fl⟩ := f
      simp only at hnn hn h0
      subst hnn
      rw [Int.toNat_natCast]
      have hng : ¬ (12 : Int) < (n : Int) := by omega
      simp only [Fm.av] at hrt hev
      rw [G_body hx.clear rfl Try.func15 rfl Try.results15 hv_15 rfl]
      simp only [Fm.av]
      simp (config := { maxSteps := 4000000 }) (disch := first | (intros; contradiction) | omega) only [go_sem, hrt, hng]
      generalize hL : loopA _ _ _ = L
      apply loop_upd hL (by simp (config := { maxSteps := 4000000 }) (disch := first | (intros; contradiction) | omega) only [go_sem] <;> rfl) (α := Nat) (fun k => k ≤ n) (fun k => n - k) (fun k => [(6, .d (.int .i64 ((2 ^ k : Nat) : Int))), (7, .d (.int .i64 k))]) (fun _ => []) 0 (by simp (config := { maxSteps := 4000000 }) (disch := first | (intros; contradiction) | omega) only [go_sem, Nat.pow_zero] <;> rfl) (Nat.zero_le _) ?_
      intro k hk next ih
      clear hL
      by_cases hkn : k < n
      · have hlt : (k : Int) < (n : Int) := by omega
        have hp : 2 ^ k ≤ 2 ^ 12 := Nat.pow_le_pow_right (by omega) (by omega)
        have hw1 : IntKind.wrap .i64 (((2 ^ k : Nat) : Int) * 2) = ((2 ^ (k + 1) : Nat) : Int) := by
          rw [Nat.pow_succ]
          generalize 2 ^ k = z at hp ⊢
          rw [wrap64 (by omega) (by omega)]
          omega
        have hw2 : IntKind.wrap .i64 ((k : Int) + 1) = ((k + 1 : Nat) : Int) := by rw [wrap64 (by omega) (by omega)]; omega
        generalize 2 ^ k = z at hw1 ⊢
        simp (config := { maxSteps := 4000000 }) (disch := first | (intros; contradiction) | omega) only [go_sem, hlt, hw1, hw2]
        exact ih (k + 1) _ hkn (by omega) (by simp (config := { maxSteps := 4000000 }) (disch := first | (intros; contradiction) | omega) only [go_sem] <;> rfl)
      · have hlt : ¬ (k : Int) < (n : Int) := by omega
        have : k = n := by omega
        subst this
        clear ih
        have hp : 2 ^ k ≤ 2 ^ 12 := Nat.pow_le_pow_right (by omega) (by omega)
        have hmk := fun i => modsF_succ ⟨k, fl⟩ k i
        have hpre := fun i j h => modsF_pre ⟨k, fl⟩ k (i := i) (j := j) h
        generalize hF : modsF ⟨k, fl⟩ k = F at hmk hpre ⊢
        have hF0 : F 0 = [] := by rw [← hF]; rfl
        generalize 2 ^ k = z at hp ⊢
        simp (config := { maxSteps := 4000000 }) (disch := first | (intros; contradiction) | omega) only [go_sem, hlt]
        generalize hL : loopA _ _ _ = L
        apply loop_upd hL (by simp (config := { maxSteps := 4000000 }) (disch := first | (intros; contradiction) | omega) only [go_sem] <;> rfl) (α := Nat × Nat × List (List Bool)) (fun s => s.1 ≤ z ∧ s.2.2 = (F s.1).take 1) (fun s => z - s.1) (fun s => [(5, .grow 2 s.2.1 (s.2.2.map rowM)), (8, .d (.int .i64 s.1)), (9, .any)]) (fun s => [(2, .grow s.2.1 1)]) (0, 0, []) (by simp (config := { maxSteps := 4000000 }) (disch := first | (intros; contradiction) | omega) only [go_sem] <;> rfl) ⟨Nat.zero_le _, by rw [hF0]; rfl⟩ ?_
        rintro ⟨i, e, out⟩ ⟨hi, ho⟩ next2 ih2
        simp only at hi ho ih2 ⊢
        clear hL
        by_cases hiz : i < z
        · have hlt2 : (i : Int) < (z : Int) := by omega
          have hi0 : (0 : Int) ≤ (i : Int) := by omega
          match out, ho with
          | [], ho =>
            have hFi : F i = [] := by
              cases hf : F i with
              | nil => rfl
              | cons x t => rw [hf] at ho; cases ho
            have hmi := hmk i
            rw [hFi, List.nil_append] at hmi
            have hb := bits_e hx i k (by omega) (by omega)
            have he := hev (bitsL k i)
            have hw2 : IntKind.wrap .i64 ((i : Int) + 1) = ((i + 1 : Nat) : Int) := by rw [wrap64 (by omega) (by omega)]; omega
            have hroom : room (0 + 1) 24 := by decide
            cases hb2 : evalP ⟨k, fl⟩ (bitsL k i) with
            | false =>
              rw [hb2] at he hmi
              simp only [Bool.false_eq_true, if_false] at hmi
              simp (config := { maxSteps := 4000000 }) (disch := first | (intros; contradiction) | omega) only [go_sem, hlt2, hb, he, hw2, List.map_nil, List.length_nil]
              exact ih2 (i + 1, e, []) _ ⟨by simp only; omega, by simp only; rw [hmi]; rfl⟩ (by simp only; omega) (by simp (config := { maxSteps := 4000000 }) (disch := first | (intros; contradiction) | omega) only [go_sem, List.map_nil] <;> rfl)
            | true =>
              rw [hb2] at he hmi
              simp only [if_true] at hmi
              generalize bitsL k i = m at hb he hmi
              simp (config := { maxSteps := 4000000 }) (disch := first | (intros; contradiction) | omega) only [go_sem, hlt2, hb, he, hw2, hroom, List.map_nil, List.length_nil, List.nil_append]
              exact ih2 (i + 1, e + 1, [m]) _ ⟨by simp only; omega, by simp only; rw [hmi]; rfl⟩ (by simp only; omega) (by simp (config := { maxSteps := 4000000 }) (disch := first | (intros; contradiction) | omega) only [go_sem, List.map_nil, List.map_cons, rowM] <;> rfl)
          | m :: t, ho =>
            obtain ⟨u, hu⟩ := hpre i z hi
            have hz1 : (F z).take 1 = m :: t := by
              rw [hu, ho]
              cases hf : F i with
              | nil => rw [hf] at ho; cases ho
              | cons x t => rfl
            have ht : t = [] := by
              have := congrArg List.length ho
              rw [List.length_take] at this
              simp only [List.length_cons] at this
              exact List.length_eq_zero_iff.1 (by omega)
            subst ht
            rw [hz1]
            simp (config := { maxSteps := 4000000 }) (disch := first | (intros; contradiction) | omega) only [go_sem, hlt2, List.map_nil, List.map_cons, List.length_cons, List.length_nil]
        · have hlt2 : ¬ (i : Int) < (z : Int) := by omega
          have : i = z := by omega
          subst this
          rw [← ho]
          simp (config := { maxSteps := 4000000 }) (disch := first | (intros; contradiction) | omega) only [go_sem, hlt2]
    · rw [if_neg (fun h => hn h.2)]
      have hng : (12 : Int) < f.n := by omega
      simp only [Fm.av] at hrt
      rw [G_body hx.clear rfl Try.func15 rfl Try.results15 hv_15 rfl]
      simp only [Fm.av]
      simp (config := { maxSteps := 4000000 }) (disch := first | (intros; contradiction) | omega) only [go_sem, hrt, hng, List.map_nil]
end Go.Proofs.Ytchedkjlhjfadaa
