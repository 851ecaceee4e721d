/- The document's models, one by one: bits, truths. Conditions: none. -/
import Derived.Test.YtchedkjlhjfadaaS14
set_option linter.unusedSimpArgs false
set_option linter.unusedVariables false
namespace Go.Proofs.Ytchedkjlhjfadaa
open Go Go.Ab
variable {ext : Sem'}
theorem truths_e (hx : TX ext) (a b : List Bool) (hl : a.length ≤ 1000000) : G ext 35 [.d (.sl (a.map rowB)), .d (.sl (b.map rowB))] [] = some (.ret (.d (.bool (decide (a = b)))), []) := by
  have hal : (a.map rowB).length = a.length := List.length_map _
  have hbl : (b.map rowB).length = b.length := List.length_map _
  rw [G_body hx.clear rfl Try.func35 rfl Try.results35 hv_35 rfl]
  by_cases h : ((a.map rowB).length : Int) = ((b.map rowB).length : Int)
  · have h' := eq_true h
    simp (config := { maxSteps := 4000000 }) (disch := first | (intros; contradiction) | omega) only [go_sem, h']
    generalize hL : loopA _ _ _ = L
    apply range_upd hL (by simp (config := { maxSteps := 4000000 }) (disch := first | (intros; contradiction) | omega) only [go_sem] <;> rfl) a rowB (α := Unit) (fun rest k _ => a.take k = b.take k) (fun k _ => [(5, .d (.int .i64 k))]) (fun _ _ => []) () (by simp (config := { maxSteps := 4000000 }) (disch := first | (intros; contradiction) | omega) only [go_sem] <;> rfl) rfl ?_ ?_
    · intro x rest k _ hi hlt hr hxx hk _ next ih
      clear hL
      have hkb : k < b.length := by omega
      have hrb := map_at (f := rowB) hkb
      have htb := List.take_succ_eq_append_getElem hkb
      have hta := List.take_succ_eq_append_getElem hk
      have hgb := List.getElem?_eq_getElem hkb
      generalize b[k] = y at hrb htb hgb
      have hxa : a[k] = x := by rw [List.getElem?_eq_getElem hk] at hxx; simpa using hxx
      rw [hxa] at hta
      simp only [rowB] at hr hrb
      by_cases hxy : x = y
      · have e := eq_true hxy
        simp (config := { maxSteps := 4000000 }) (disch := first | (intros; contradiction) | omega) only [go_sem, hlt, hr, hrb, e, wrap64]
        exact ih () _ (by rw [hta, htb, hi, hxy]) (by simp (config := { maxSteps := 4000000 }) (disch := first | (intros; contradiction) | omega) only [go_sem] <;> rfl)
      · have hne : ¬ a = b := by
          intro e
          rw [e, hgb] at hxx
          exact hxy (by simpa using hxx.symm)
        rw [decide_eq_false hne]
        simp (config := { maxSteps := 4000000 }) (disch := first | (intros; contradiction) | omega) only [go_sem, hlt, hr, hrb, hxy, wrap64]
    · intro k _ hi hlt hk next
      clear hL
      have e : a = b := by
        have h1 := List.take_of_length_le (show a.length ≤ k by omega)
        have h2 := List.take_of_length_le (show b.length ≤ k by omega)
        rw [← h1, hi, h2]
      rw [decide_eq_true e]
      simp (config := { maxSteps := 4000000 }) (disch := first | (intros; contradiction) | omega) only [go_sem, hlt]
  · have hne : ¬ a = b := by intro e; rw [e] at h; exact h rfl
    rw [decide_eq_false hne]
    simp (config := { maxSteps := 4000000 }) (disch := first | (intros; contradiction) | omega) only [go_sem, h]
def bitsL (w x : Nat) : List Bool := (List.range w).map fun i => decide (x / 2 ^ (w - 1 - i) % 2 = 1)
theorem bits_e (hx : TX ext) (x w : Nat) (hw : w ≤ 1000) (hxx : x ≤ 1000000) : G ext 45 [.d (.int .i64 x), .d (.int .i64 w)] [] = some (.ret (.d (.sl ((bitsL w x).map rowB))), []) := by
  have b1 := fun l => avB_refs l
  have b2 := fun l f => avB_ren f l
  obtain ⟨m, hm⟩ : ∃ m, m = w := ⟨_, rfl⟩
  have hroom : room m 1 := by unfold room; simp; omega
  have h0 : (0 : Int) ≤ (w : Int) := by omega
  have hz := falsesB m
  have e0 : ((w : Int)).toNat = m := by omega
  have hw0 : IntKind.wrap .i64 ((w : Int) - 1) = (w : Int) - 1 := wrap64 (by omega) (by omega)
  rw [G_body hx.clear rfl Try.func45 rfl Try.results45 hv_45 rfl]
  rw [hm] at hz hroom e0
  simp (config := { maxSteps := 4000000 }) (disch := first | (intros; contradiction) | omega) only [go_sem, hroom, h0, Int.le_refl, e0, hz, b1, hw0]
  generalize hL : loopA _ _ _ = L
  apply loop_upd hL (by simp (config := { maxSteps := 4000000 }) (disch := first | (intros; contradiction) | omega) only [go_sem, b1] <;> rfl) (α := Nat × List Bool) (fun s => s.1 ≤ w ∧ s.2.length = w ∧ ∀ i, w - s.1 ≤ i → i < w → s.2[i]? = some (decide (x / 2 ^ (w - 1 - i) % 2 = 1))) (fun s => w - s.1)
    (fun s => [(0, .d (.int .i64 ((x / 2 ^ s.1 : Nat) : Int))), (6, .d (.int .i64 ((w : Int) - 1 - s.1)))]) (fun s => [(1, .cells (s.2.map avB))]) (0, List.replicate w false) (by simp (config := { maxSteps := 4000000 }) (disch := first | (intros; contradiction) | omega) only [go_sem, Nat.pow_zero, Nat.div_one, Int.sub_zero] <;> rfl) ⟨by simp, by simp, by simp; omega⟩ ?_
  rintro ⟨j, bl⟩ ⟨i1, i2, i3⟩ next ih
  simp only at i1 i2 i3 ih ⊢
  clear hL
  by_cases hj : j < w
  · obtain ⟨k, hk⟩ : ∃ k : Nat, k = w - 1 - j := ⟨_, rfl⟩
    have hki : (w : Int) - 1 - j = (k : Int) := by omega
    have hge : (0 : Int) ≤ (k : Int) := by omega
    have hkw : (k : Int) < (w : Int) := by omega
    have hmod : ((x / 2 ^ j : Nat) : Int).tmod 2 = ((x / 2 ^ j % 2 : Nat) : Int) := rfl
    have hdiv : IntKind.wrap .i64 (((x / 2 ^ j : Nat) : Int).tdiv 2) = ((x / 2 ^ (j + 1) : Nat) : Int) := by
      have h1 : ((x / 2 ^ j : Nat) : Int).tdiv 2 = ((x / 2 ^ j / 2 : Nat) : Int) := rfl
      rw [h1, Nat.div_div_eq_div_mul, ← Nat.pow_succ]
      have := Nat.div_le_self x (2 ^ (j + 1))
      show IntKind.wrap .i64 ((x / 2 ^ (j + 1) : Nat) : Int) = _
      generalize x / 2 ^ (j + 1) = z at this ⊢
      exact wrap64 (by omega) (by omega)
    have hdec : (((x / 2 ^ j % 2 : Nat) : Int) = 1) = (x / 2 ^ j % 2 = 1) := propext (by omega)
    have hw1 : IntKind.wrap .i64 ((k : Int) - 1) = (w : Int) - 1 - ((j + 1 : Nat) : Int) := by rw [wrap64 (by omega) (by omega)]; omega
    have hs := setB (l := bl) (a := k) (y := decide (x / 2 ^ j % 2 = 1)) (by omega)
    have hr : k + 1 ≤ (bl.map avB).length := by rw [List.length_map]; omega
    rw [hki]
    simp (config := { maxSteps := 4000000 }) (disch := first | (intros; contradiction) | omega) only [go_sem, hge, hkw, hmod, hdiv, hdec, hw1, hs, hr, Nat.mul_one, b1, b2]
    refine ih (j + 1, bl.set k (decide (x / 2 ^ j % 2 = 1))) _ ⟨hj, by simpa using i2, fun i h1 h2 => ?_⟩ (by simp only; omega) (by simp (config := { maxSteps := 4000000 }) (disch := first | (intros; contradiction) | omega) only [go_sem, b1, b2] <;> rfl)
    by_cases hik : k = i
    · subst hik
      rw [List.getElem?_set_self (by omega), show w - 1 - k = j by omega]
    · rw [List.getElem?_set_ne hik]
      exact i3 i (by omega) h2
  · have hge : ¬ (0 : Int) ≤ (w : Int) - 1 - j := by omega
    have hbl : bl = bitsL w x := by
      apply List.ext_getElem?
      intro i
      by_cases hi : i < w
      · rw [i3 i (by omega) hi]
        unfold bitsL
        rw [List.getElem?_map, List.getElem?_range hi]
        rfl
      · rw [List.getElem?_eq_none (by omega), List.getElem?_eq_none (by unfold bitsL; simp; omega)]
    have hbw : (bitsL w x).length = w := by unfold bitsL; simp
    subst hbl
    generalize bitsL w x = bl at hbw
    have hll : (List.map avB bl).length = w := by rw [List.length_map]; exact hbw
    have hd := dataB bl
    have hch := chunkB bl
    rw [hbw] at hch
    have htk : List.take w (List.map avB bl) = List.map avB bl := List.take_of_length_le (by omega)
    simp (config := { maxSteps := 4000000 }) (disch := first | (intros; contradiction) | omega) only [go_sem, hge, hll, hd, hch, htk, Nat.mul_one, Nat.le_refl, b1, b2]
end Go.Proofs.Ytchedkjlhjfadaa
