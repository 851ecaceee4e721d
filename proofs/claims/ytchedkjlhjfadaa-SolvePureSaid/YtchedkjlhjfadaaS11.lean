/- What the document says of literals that force, walked. Conditions: none. -/
import Derived.Test.YtchedkjlhjfadaaS10
set_option linter.unusedSimpArgs false
set_option linter.unusedVariables false
namespace Go.Proofs.Ytchedkjlhjfadaa
open Go Go.Ab
variable {ext : Sem'}
theorem len3 : ∀ l : List Int, l = [] ∨ (∃ x, l = [x]) ∨ 2 ≤ l.length
  | [] => .inl rfl
  | [x] => .inr (.inl ⟨x, rfl⟩)
  | x :: y :: r => .inr (.inr (by simp))
set_option maxHeartbeats 4000000 in
theorem rfixed_e (hx : TX ext) (f : Fm) (hs : Short f) (hr : rightP f = true) (lits : List Int) (hl : lits.length ≤ 1000) (hnn : f.n ≤ 1000) (hr2 : rightP ⟨f.n, [lits]⟩ = true) :
    ∃ l b, G ext 28 [f.av, .d (.sl (lits.map rowI))] [] = some (.ret (.tuple [.d (.sl (l.map rowI)), .d (.bool b)]), []) ∧ DocR f lits l b := by
  obtain ⟨q1, q2, q3⟩ := right_inv hr
  obtain ⟨_, _, q4⟩ := right_inv hr2
  have hla : allP f.n lits = true := List.all_eq_true.2 fun x hx => q4 lits (by simp) x hx
  have hrt := rright_e hx f hs
  rw [hr] at hrt
  have hrl := rright_e hx ⟨f.n, [lits]⟩ ⟨by simp, fun c hc => by simp at hc; subst hc; omega⟩
  rw [hr2] at hrl
  simp only [Fm.av, List.map_cons, List.map_nil, rowC] at hrt hrl
  have hll : (lits.map rowI).length = lits.length := List.length_map _
  have hfit : ∀ l : List Int, fits 1 (l.map rowI) := fun l => by intro row h; obtain ⟨x, _, rfl⟩ := List.mem_map.1 h; rfl
  have hroom : room (lits.map rowI).length 8 := room8 (by omega)
  rw [G_body hx.clear rfl Try.func28 rfl Try.results28 hv_28 rfl]
  simp only [Fm.av]
  simp (config := { maxSteps := 4000000 }) (disch := first | (intros; contradiction) | omega) only [go_sem, hrt, hrl, hfit, hroom, Nat.zero_add, List.nil_append]
  generalize hL : loopA _ _ _ = L
  apply loop_upd hL (by simp (config := { maxSteps := 4000000 }) (disch := first | (intros; contradiction) | omega) only [go_sem] <;> rfl) (α := List Int × Nat × Bool) (fun s => DCh f lits s.1 ∧ (s.2.2 = false → clashP s.1 = false ∧ ∀ c, c ∈ (gAll f s.1).l → 2 ≤ (normR c).length))
    (fun s => 2 * (lits.length + f.n.toNat + 1 - s.1.length) + if s.2.2 = true then 1 else 0) (fun s => [(6, .grow 2 s.2.1 (s.1.map rowI)), (7, .d (.bool s.2.2)), (8, .any), (9, .any), (10, .any), (11, .any)]) (fun s => [(2, .grow s.2.1 1)]) (lits, 1, true) (by simp (config := { maxSteps := 4000000 }) (disch := first | (intros; contradiction) | omega) only [go_sem] <;> rfl) ⟨.start, by simp⟩ ?_
  rintro ⟨d, e, again⟩ ⟨hd, hdone⟩ next ih
  simp only at hd hdone ih ⊢
  clear hL
  have hdl := hd.le hr hla
  obtain ⟨hda, _⟩ := hd.all hr hla
  have hdl2 : (d.map rowI).length = d.length := List.length_map _
  cases again with
  | false =>
    obtain ⟨hcl, hall⟩ := hdone rfl
    obtain ⟨nb, hn⟩ := rnorm_e hx d (by omega)
    refine ⟨normR d, true, ?_, .inl ⟨rfl, d, hd, hcl, hall, rfl⟩⟩
    simp (config := { maxSteps := 4000000 }) (disch := first | (intros; contradiction) | omega) only [go_sem, hn]
  | true =>
    clear hdone
    have hg0 : gAll f (d.take 0) = f := rfl
    simp (config := { maxSteps := 4000000 }) (disch := first | (intros; contradiction) | omega) only [go_sem]
    generalize hL : loopA _ _ _ = L
    apply range_upd hL (by simp (config := { maxSteps := 4000000 }) (disch := first | (intros; contradiction) | omega) only [go_sem] <;> rfl) d rowI (α := Unit) (fun _ k _ => ∀ x, x ∈ d.take k → hasP d (IntKind.wrap .i64 (0 - x)) = false) (fun k _ => [(9, .d (.int .i64 k))]) (fun k _ => [(4, .cells [.d (.int .i64 (gAll f (d.take k)).n), .d (.sl ((gAll f (d.take k)).l.map rowC))])]) () (by simp (config := { maxSteps := 4000000 }) (disch := first | (intros; contradiction) | omega) only [go_sem] <;> rfl) (by simp) ?_ ?_
    · rintro x rest k _ hcl hlt hr3 hget hk _ next2 ih2
      clear hL
      simp only [rowI] at hr3
      have hk0 : (0 : Int) ≤ (k : Int) := by omega
      have h5 := has15_e hx d (IntKind.wrap .i64 (0 - x)) (by omega)
      have hgv := rgiven_e hx (gAll f (d.take k)) (gAll_short hs _) x
      have hsn : gAll f (d.take (k + 1)) = givenP (gAll f (d.take k)) x := by rw [List.take_add_one, hget]; exact gAll_snoc f _ x
      simp only [Fm.av] at hgv
      cases hb : hasP d (IntKind.wrap .i64 (0 - x)) with
      | true =>
        refine ⟨[], false, ?_, .inr ⟨rfl, rfl, d, hd, .inl (List.any_eq_true.2 ⟨x, List.mem_of_getElem? hget, hb⟩)⟩⟩
        rw [hb] at h5
        simp (config := { maxSteps := 4000000 }) (disch := first | (intros; contradiction) | omega) only [go_sem, hlt, hr3, hk0, h5, List.map_nil]
      | false =>
        rw [hb] at h5
        generalize gAll f (d.take k) = g at hgv hsn
        simp (config := { maxSteps := 4000000 }) (disch := first | (intros; contradiction) | omega) only [go_sem, hlt, hr3, hk0, h5, hgv, wrap64]
        refine ih2 () _ (fun y hy => ?_) (by simp (config := { maxSteps := 4000000 }) (disch := first | (intros; contradiction) | omega) only [go_sem, hsn] <;> rfl)
        rw [List.take_add_one, hget] at hy
        rcases List.mem_append.1 hy with hy | hy
        · exact hcl y hy
        · simp only [Option.toList_some, List.mem_singleton] at hy
          subst hy
          assumption
    · rintro k _ hcl hlt hk next2
      clear hL
      have etk : d.take k = d := by rw [hk, List.take_length]
      rw [etk] at hcl ⊢
      have hcl' : clashP d = false := List.any_eq_false.2 fun x hx => by rw [hcl x hx]; simp
      have hgs := gAll_short hs d
      have hgl := hgs.l
      have hgll : ((gAll f d).l.map rowC).length = (gAll f d).l.length := List.length_map _
      simp (config := { maxSteps := 4000000 }) (disch := first | (intros; contradiction) | omega) only [go_sem, hlt]
      generalize hL : loopA _ _ _ = L
      apply range_upd hL (by simp (config := { maxSteps := 4000000 }) (disch := first | (intros; contradiction) | omega) only [go_sem] <;> rfl) (gAll f d).l rowC (α := Unit) (fun _ k _ => ∀ c, c ∈ (gAll f d).l.take k → 2 ≤ (normR c).length) (fun k _ => [(10, .d (.int .i64 k)), (11, .any)]) (fun _ _ => []) () (by simp (config := { maxSteps := 4000000 }) (disch := first | (intros; contradiction) | omega) only [go_sem] <;> rfl) (by simp) ?_ ?_
      · rintro c rest j _ hall hlt2 hr4 hget2 hj _ next3 ih3
        clear hL
        simp only [rowC] at hr4
        have hj0 : (0 : Int) ≤ (j : Int) := by omega
        have hcm := List.mem_of_getElem? hget2
        obtain ⟨nb, hn⟩ := rnorm_e hx c (by have := hgs.c c hcm; omega)
        have htri : normR c = [] ∨ (∃ x, normR c = [x]) ∨ 2 ≤ (normR c).length := len3 _
        rcases htri with hnc | ⟨x, hnc⟩ | hl2
        · rw [hnc] at hn
          simp only [List.map_nil] at hn
          refine ⟨[], false, ?_, .inr ⟨rfl, rfl, d, hd, .inr ⟨hcl', c, hcm, hnc⟩⟩⟩
          simp (config := { maxSteps := 4000000 }) (disch := first | (intros; contradiction) | omega) only [go_sem, hlt2, hr4, hj0, hn, List.map_nil, List.length_nil]
        · rw [hnc] at hn
          simp only [List.map_nil, List.map_cons, rowI] at hn
          have hroom2 : room ((d.map rowI).length + 1) 8 := room8 (by omega)
          have hlx := (DCh.step hd hcl' hcm hnc).le hr hla
          rw [List.length_append] at hlx
          simp (config := { maxSteps := 4000000 }) (disch := first | (intros; contradiction) | omega) only [go_sem, hlt2, hr4, hj0, hn, hroom2, List.length_nil, List.length_cons]
          exact ih (d ++ [x], e + 1, true) _ ⟨.step hd hcl' hcm hnc, by simp⟩ (by simp only [List.length_append, List.length_cons, List.length_nil, if_true] at hlx ⊢; omega) (by simp (config := { maxSteps := 4000000 }) (disch := first | (intros; contradiction) | omega) only [go_sem, List.map_append, List.map_cons, List.map_nil, rowI] <;> rfl)
        · have e0 : ¬ (((normR c).map rowI).length : Int) = 0 := by rw [List.length_map]; omega
          have e1 : ¬ (((normR c).map rowI).length : Int) = 1 := by rw [List.length_map]; omega
          simp (config := { maxSteps := 4000000 }) (disch := first | (intros; contradiction) | omega) only [go_sem, hlt2, hr4, hj0, hn, e0, e1, wrap64]
          refine ih3 () _ (fun z hz => ?_) (by simp (config := { maxSteps := 4000000 }) (disch := first | (intros; contradiction) | omega) only [go_sem] <;> rfl)
          rw [List.take_add_one, hget2] at hz
          rcases List.mem_append.1 hz with hz | hz
          · exact hall z hz
          · simp only [Option.toList_some, List.mem_singleton] at hz
            subst hz
            exact hl2
      · rintro j _ hall hlt2 hj next3
        clear hL
        rw [hj, List.take_length] at hall
        simp (config := { maxSteps := 4000000 }) (disch := first | (intros; contradiction) | omega) only [go_sem, hlt2]
        exact ih (d, e, false) _ ⟨hd, fun _ => ⟨hcl', hall⟩⟩ (by simp) (by simp (config := { maxSteps := 4000000 }) (disch := first | (intros; contradiction) | omega) only [go_sem] <;> rfl)
end Go.Proofs.Ytchedkjlhjfadaa
