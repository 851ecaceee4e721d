/- cnf: clauses in order; which formulas are right. Conditions: none. -/
import Derived.Test.YtchedkjlhjfadaaC3
set_option linter.unusedSimpArgs false
set_option linter.unusedVariables false
namespace Go.Proofs.Ytchedkjlhjfadaa
open Go Go.Ab
variable {ext : Sem'}
theorem len_ins (x : Int) : ∀ l, (insI x l).length = l.length + 1
  | [] => rfl
  | y :: l => by simp only [insI]; split <;> simp [len_ins x l]
theorem len_sort : ∀ l, (sortL l).length = l.length
  | [] => rfl
  | x :: l => by simp only [sortL, len_ins, len_sort l, List.length_cons]
theorem len_dd : ∀ l : List Int, (dd l).length ≤ l.length
  | [] => Nat.le_refl _
  | [x] => Nat.le_refl _
  | x :: y :: l => by
    have := len_dd (y :: l)
    simp only [dd]
    split <;> simp only [List.length_cons] at * <;> omega
/-- Does no one stand beside its opposite? -/
def cleanL : List Int → Bool
  | x :: y :: l => !decide (y = IntKind.wrap .i64 (0 - x)) && cleanL (y :: l)
  | _ => true
def normL (c : List Int) : List Int := dd (sortL c)
theorem clean_at : ∀ {l : List Int} {k : Nat} {x y : Int}, l[k]? = some x → l[k + 1]? = some y → cleanL (l.drop k) = (!decide (y = IntKind.wrap .i64 (0 - x)) && cleanL (l.drop (k + 1))) := by
  intro l k x y hx hy
  have h1 := (List.getElem?_eq_some_iff.1 hx).1
  have h2 := (List.getElem?_eq_some_iff.1 hy).1
  rw [List.drop_eq_getElem_cons h1, List.drop_eq_getElem_cons h2]
  rw [List.getElem?_eq_getElem h1] at hx
  rw [List.getElem?_eq_getElem h2] at hy
  cases hx; cases hy
  rfl
set_option maxHeartbeats 4000000 in
theorem norm_e (hx : TX ext) (c : List Int) (hl : c.length ≤ 1000000) : G ext 104 [.d (.sl (c.map rowI))] [] = some (.ret (.tuple [.d (.sl ((normL c).map rowI)), .d (.bool (cleanL (normL c)))]), []) := by
  have a1 := fun l => av_refs l
  have a2 := fun l f => av_ren f l
  rw [G_body hx.clear rfl Try.func104 rfl Try.results104 hv_104 rfl]
  by_cases h0 : c = []
  · subst h0
    have e0 := G_ext hx.clone0
    have e1 := G_ext hx.sort0
    have e2 := compact0_e hx
    simp only [List.map_nil]
    rw [show normL [] = [] from rfl, show cleanL [] = true from rfl]
    simp (config := { maxSteps := 4000000 }) (disch := first | (intros; contradiction) | omega) only [go_sem, e0, e1, e2]
    rw [loopA_eq]
    simp (config := { maxSteps := 4000000 }) (disch := first | (intros; contradiction) | omega) only [go_sem, List.map_nil]
  · have hs := len_sort c
    have hdl := len_dd (sortL c)
    have e0 := G_ext (hx.clone1 c h0 hl)
    have e1 := G_ext (hx.sort1 c h0 hl)
    have e2 := compact1_e hx (sortL c) (by omega)
    rw [hs] at e2
    simp (config := { maxSteps := 4000000 }) (disch := first | (intros; contradiction) | omega) only [go_sem, a1, a2, e0, e1, e2]
    have hol : (normL c).length ≤ 1000000 := by unfold normL; omega
    change _ at hol
    rw [show dd (sortL c) = normL c from rfl]
    generalize normL c = o at hol
    have hoo : (o.map rowI).length = o.length := List.length_map _
    generalize hL : loopA _ _ _ = L
    apply range_upd hL (by simp (config := { maxSteps := 4000000 }) (disch := first | (intros; contradiction) | omega) only [go_sem, a1, a2] <;> rfl) o rowI (α := Unit) (fun rest k _ => cleanL o = cleanL (o.drop (k - 1))) (fun k _ => [(5, .any), (14, .d (.int .i64 k))]) (fun _ _ => []) () (by simp (config := { maxSteps := 4000000 }) (disch := first | (intros; contradiction) | omega) only [go_sem, a1, a2] <;> rfl) rfl ?_ ?_
    · rintro x rest k _ i1 hlt hr hget hk _ next ih
      clear hL
      simp only [rowI] at hr
      by_cases k0 : k = 0
      · have g0 : ¬ (0 : Int) < (k : Int) := by omega
        simp (config := { maxSteps := 4000000 }) (disch := first | (intros; contradiction) | omega) only [go_sem, hlt, hr, g0, wrap64]
        exact ih () _ (by rw [k0]; rfl) (by simp (config := { maxSteps := 4000000 }) (disch := first | (intros; contradiction) | omega) only [go_sem, a1, a2] <;> rfl)
      · have g0 : (0 : Int) < (k : Int) := by omega
        have hk1 : k - 1 < o.length := by omega
        have hr1 : (o.map rowI)[k - 1]? = some [.int .i64 o[k - 1]] := by rw [map_at hk1]; rfl
        have hcl := clean_at (List.getElem?_eq_getElem hk1) (show o[k - 1 + 1]? = some x by rw [show k - 1 + 1 = k by omega]; exact hget)
        have g1 : 0 ≤ (k : Int) - 1 := by omega
        have g2 : ((k : Int) - 1).toNat = k - 1 := by omega
        generalize o[k - 1] = y at hr1 hcl
        rw [hcl, show k - 1 + 1 = k by omega] at i1
        by_cases hxy : x = IntKind.wrap .i64 (0 - y)
        · rw [decide_eq_true hxy] at i1
          rw [i1]
          have hxy := eq_true hxy
          simp (config := { maxSteps := 4000000 }) (disch := first | (intros; contradiction) | omega) only [go_sem, hlt, hr, g0, g1, g2, hr1, hxy, wrap64]
        · rw [decide_eq_false hxy] at i1
          simp (config := { maxSteps := 4000000 }) (disch := first | (intros; contradiction) | omega) only [go_sem, hlt, hr, g0, g1, g2, hr1, hxy, wrap64]
          exact ih () _ (by rw [i1]; simp) (by simp (config := { maxSteps := 4000000 }) (disch := first | (intros; contradiction) | omega) only [go_sem, a1, a2] <;> rfl)
    · rintro k _ i1 hlt hk next
      clear hL
      have i1 : cleanL o = true := by
        rw [i1]
        rcases Nat.eq_zero_or_pos k with h | h
        · rw [List.length_eq_zero_iff.1 (show o.length = 0 by omega), List.drop_nil]; rfl
        · rw [List.drop_eq_getElem_cons (show k - 1 < o.length by omega), show k - 1 + 1 = k by omega, List.drop_eq_nil_of_le (by omega)]; rfl
      rw [i1]
      simp (config := { maxSteps := 4000000 }) (disch := first | (intros; contradiction) | omega) only [go_sem, hlt]
end Go.Proofs.Ytchedkjlhjfadaa
