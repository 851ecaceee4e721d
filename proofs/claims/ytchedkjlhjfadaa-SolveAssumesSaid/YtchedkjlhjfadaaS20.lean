/- Law 15: what a solver answers to any assumptions. Conditions: none. -/
import Derived.Test.YtchedkjlhjfadaaS19
set_option linter.unusedSimpArgs false
set_option linter.unusedVariables false
namespace Go.Proofs.Ytchedkjlhjfadaa
open Go Go.Ab
variable {ext : Sem'}
theorem withP_wrong {f : Fm} {lits : List Int} (hr : rightP f = false) : firstP (withP f lits) = [] := by
  unfold firstP
  rw [if_neg]
  rintro ⟨h, _⟩
  obtain ⟨h0, h1, h2⟩ := right_inv h
  have : rightP f = true := by
    unfold rightP withP at *
    simp only [Bool.and_eq_true, Bool.not_eq_true', decide_eq_false_iff_not, List.all_append, List.length_append, List.length_map] at h ⊢
    exact ⟨h.1, h.2.1, by omega, h.2.2.2.1⟩
  rw [this] at hr
  cases hr
theorem find_wrong {n : Nat} {fl : List (List Int)} {held c : List Int} {m : List Bool} {b : Bool} (h0 : (0 : Int) ≤ n) (h1 : (n : Int) ≤ 100000) (hc : rightP ⟨n, [c]⟩ = false) (h : FindR n fl (held ++ c) m b) : b = false := by
  have ha : allP n c = false := by
    cases ha : allP n c
    · rfl
    · rw [← hc]
      unfold rightP
      simp only [List.all_cons, List.all_nil, ha, List.length_cons, List.length_nil, Bool.and_true]
      rw [decide_eq_false (by omega), decide_eq_false (by omega), decide_eq_false (by omega)]
      rfl
  obtain ⟨x, hx, hx2⟩ := neg_of_not h0 h1 ha
  have hasm : asm n [] (held ++ c) = none := asm_bad ⟨x, by simp [hx], by omega⟩
  rcases h with ⟨_, q, t, hq, _⟩ | ⟨rfl, _⟩
  · rw [hasm] at hq; cases hq
  · rfl
/-- What Assume answers. -/
theorem as_u (hx : TXS ext) (f : Fm) (hs : Short f) (hn : f.n ≤ 10) (held : Option (List Int)) (s : Int) (c : List Int) (h1 : (heldL held).length ≤ 10000) (h2 : c.length ≤ 10000) (hs1 : 0 ≤ s ∧ s ≤ 10000000000000) :
    ∃ b o' s', G ext 33 [.ptr 0 0, .d (.sl (c.map rowI))] [solO f (rightP f) held s] = some (.ret (.d (.bool b)), [solO f (rightP f) o' s']) ∧
      b = (rightP f && (rightP ⟨f.n, [c]⟩ && decide (0 < (firstP (withP f (heldL held ++ c))).length))) ∧ heldL o' = (if b = true then heldL held ++ c else heldL held) ∧ s ≤ s' ∧ s' ≤ s + 10000 := by
  cases hr : rightP f with
  | false =>
    refine ⟨false, held, s, ?_, by simp, by simp, by omega, by omega⟩
    exact assume0_e hx f held s c h1 h2
  | true =>
    obtain ⟨h0, h3, h4⟩ := right_inv hr
    obtain ⟨n, hnn⟩ : ∃ n : Nat, f.n = (n : Int) := ⟨f.n.toNat, by omega⟩
    obtain ⟨fn, fl⟩ := f
    simp only at hnn hn h0 h3 h4
    subst hnn
    obtain ⟨m, b, s', he, hR, hs2, hs3, hs4⟩ := assume1_e hx n fl held s c h1 h2 (by omega) hs hr hs1
    have hsl := hs.l
    have hff := first_find (by omega) hr (by rw [List.length_append]; simp only at hsl ⊢; omega) hR
    refine ⟨b, _, s', he, ?_, ?_, hs2, hs3⟩
    · simp only [Bool.true_and]
      cases hc : rightP ⟨n, [c]⟩ with
      | false => rw [find_wrong (by omega) (by omega) hc hR]; rfl
      | true =>
        rw [hff]
        cases b <;> rfl
    · cases b <;> rfl
/-- What Model answers. -/
theorem mo_u (hx : TXS ext) (f : Fm) (hs : Short f) (hn : f.n ≤ 10) (held : Option (List Int)) (s : Int) (h1 : (heldL held).length ≤ 10000) (hs1 : 0 ≤ s ∧ s ≤ 10000000000000) :
    ∃ m s', G ext 34 [.ptr 0 0] [solO f (rightP f) held s] = some (.ret (.d (.sl (m.map rowB))), [solO f (rightP f) held s']) ∧
      ((firstP (withP f (heldL held)) = [] ∧ m = []) ∨ (firstP (withP f (heldL held)) = [m] ∧ (0 < f.n → s < s'))) ∧ s ≤ s' ∧ s' ≤ s + 10000 := by
  cases hr : rightP f with
  | false =>
    refine ⟨[], s, model0_e hx f held s, .inl ⟨withP_wrong hr, rfl⟩, by omega, by omega⟩
  | true =>
    obtain ⟨h0, h3, h4⟩ := right_inv hr
    obtain ⟨n, hnn⟩ : ∃ n : Nat, f.n = (n : Int) := ⟨f.n.toNat, by omega⟩
    obtain ⟨fn, fl⟩ := f
    simp only at hnn hn h0 h3 h4
    subst hnn
    obtain ⟨m, b, s', he, hR, hs2, hs3, hs4⟩ := model1_e hx n fl held s h1 (by omega) hs hr hs1
    have hsl := hs.l
    have hff := first_find (by omega) hr (by simp only at hsl ⊢; omega) hR
    refine ⟨m, s', he, ?_, hs2, hs3⟩
    cases b with
    | false =>
      rcases hR with ⟨h, _⟩ | ⟨_, hm, _⟩
      · cases h
      · exact .inl ⟨hff, hm⟩
    | true => exact .inr ⟨hff, fun h => hs4 rfl (by simp only at h; omega)⟩
theorem firstP_len {f : Fm} {m : List Bool} (h : m ∈ firstP f) : m.length ≤ 1000000 := by
  unfold firstP at h
  split at h
  · rename_i h2
    have h := (List.mem_filter.1 (List.mem_of_mem_take h)).1
    obtain ⟨i, _, rfl⟩ := List.mem_map.1 h
    unfold bitsL
    rw [List.length_map, List.length_range]
    omega
  · cases h
theorem withP_short {f : Fm} {lits : List Int} (hs : Short f) (hl : f.l.length + lits.length ≤ 1000) : Short (withP f lits) :=
  ⟨by unfold withP; simp only [List.length_append, List.length_map]; omega, fun c hc => by
    unfold withP at hc
    rcases List.mem_append.1 hc with h | h
    · exact hs.c c h
    · obtain ⟨x, _, rfl⟩ := List.mem_map.1 h
      simp⟩
set_option maxHeartbeats 8000000 in
theorem assumesL_e (hx : TXS ext) (f : Fm) (l : List (List Int)) : G ext 8 [f.av, .d (.sl (l.map rowC))] [] = some (.ret (.d (.bool true)), []) := by
  have ha := alive15_e hx.toTX
  have hli := light15_e hx.toTX f
  have hll : (l.map rowC).length = l.length := List.length_map _
  have hxt := hx.toTX
  cases h1 : light15 f with
  | false =>
    rw [h1] at hli
    simp only [Fm.av] at hli ⊢
    have hx := hxt
    rw [G_body hx.clear rfl Try.func8 rfl Try.results8 hv_8 rfl]
    simp (config := { maxSteps := 4000000 }) (disch := first | (intros; contradiction) | omega) only [go_sem, hli, ha]
  | true =>
    rw [h1] at hli
    obtain ⟨hs, hn, hl40⟩ := light15_inv h1
    by_cases h8 : (8 : Int) < ((l.map rowC).length : Int)
    · simp only [Fm.av] at hli ⊢
      have hx := hxt
      rw [G_body hx.clear rfl Try.func8 rfl Try.results8 hv_8 rfl]
      simp (config := { maxSteps := 4000000 }) (disch := first | (intros; contradiction) | omega) only [go_sem, hli, h8, ha]
    · have ho := own_e hxt f
      have hnew := snew_e hxt f hs
      have hcl := fun c => clause_e hxt c
      have hrr := rright_e hxt f hs
      have hrr1 := fun c h => rright_e hxt ⟨f.n, [c]⟩ h
      have hwi := fun lits h => with_e hxt f lits (by have := hs.l; omega) h
      have hmo := fun lits h => models_e hxt (withP f lits) h
      have htr := fun a b h => truths_e hxt a b h
      have hst := fun o s => steps_e hxt f (rightP f) o s
      have hAs := fun o s c a b d => as_u hx f hs hn o s c a b d
      have hMo := fun o s a b => mo_u hx f hs hn o s a b
      have hfl := fun lits m (h : m ∈ firstP (withP f lits)) => firstP_len h
      have hz1 := assumeN_e hxt []
      have hz2 := modelN_e hxt
      have hz3 := stepsN_e hxt
      generalize rightP f = r at hnew hrr hst hAs hMo
      obtain ⟨fpf, hfp⟩ : ∃ fp : List Int → List (List Bool), ∀ lits, firstP (withP f lits) = fp lits := ⟨fun lits => firstP (withP f lits), fun _ => rfl⟩
      obtain ⟨rcf, hrc⟩ : ∃ rc : List Int → Bool, ∀ c, rightP ⟨f.n, [c]⟩ = rc c := ⟨fun c => rightP ⟨f.n, [c]⟩, fun _ => rfl⟩
      simp only [hfp, hrc] at hmo hAs hMo hrr1 hfl
      simp only [Fm.av, solO, withP, List.map_nil] at hli ho hnew hrr hrr1 hwi hmo hst hAs hMo hz1 ⊢
      have hxx := hx
      clear hx
      have hx := hxt
      rw [G_body hx.clear rfl Try.func8 rfl Try.results8 hv_8 rfl]
      simp (config := { maxSteps := 4000000 }) (disch := first | (intros; contradiction) | omega) only [go_sem, hli, h8, ho, hnew, List.map_nil, hAV_ren, hAV_refs]
      generalize hL : loopA _ _ _ = L
      apply range_upd hL (by simp (config := { maxSteps := 4000000 }) (disch := first | (intros; contradiction) | omega) only [go_sem, hAV_ren, hAV_refs, heldL, Option.getD_none, List.map_nil] <;> rfl) l rowC (α := Option (List Int) × Int) (fun _ k s => (heldL s.1).length ≤ k * 60 ∧ 0 ≤ s.2 ∧ s.2 ≤ k * 20000) (fun k s => [(6, .d (.sl ((heldL s.1).map rowI))), (7, .d (.int .i64 k))])
        (fun k s => [(1, .cells [.d (.int .i64 f.n), .d (.sl (f.l.map rowC)), .d (.bool r), hAV s.1, .d (.int .i64 s.2)])]) (none, 0) (by simp (config := { maxSteps := 4000000 }) (disch := first | (intros; contradiction) | omega) only [go_sem, hAV_ren, hAV_refs, heldL, Option.getD_none, List.map_nil] <;> rfl) ⟨by simp [heldL], by simp, by simp⟩ ?_ ?_
      · rintro c rest k ⟨o, s⟩ ⟨i1, i2, i3⟩ hlt hrow hget hk _ next ih
        simp only at i1 i2 i3 ih ⊢
        clear hL
        simp only [rowC] at hrow
        have hk0 : (0 : Int) ≤ (k : Int) := by omega
        cases hc : clauseP c with
        | false =>
          have hcl := hcl c
          rw [hc] at hcl
          simp (config := { maxSteps := 4000000 }) (disch := first | (intros; contradiction) | omega) only [go_sem, hlt, hrow, hk0, hcl, ha, hAV_ren, hAV_refs]
        | true =>
          have hcl := hcl c
          rw [hc] at hcl
          have hc60 : c.length ≤ 60 := by
            unfold clauseP at hc
            simp only [Bool.and_eq_true, decide_eq_true_eq] at hc
            exact hc.1
          have hk8 : k < 8 := by omega
          have hwk : IntKind.wrap .i64 ((k : Int) + 1) = ((k + 1 : Nat) : Int) := by rw [wrap64 (by omega) (by omega)]; omega
          have hfit : ∀ l : List Int, fits 1 (l.map rowI) := fun l => by intro row h; obtain ⟨x, _, rfl⟩ := List.mem_map.1 h; rfl
          have hll1 : ((heldL o).map rowI).length = (heldL o).length := List.length_map _
          have hll2 : (c.map rowI).length = c.length := List.length_map _
          have hroom : room ((heldL o).map rowI).length 8 := room8 (by omega)
          have hroom2 : room (((heldL o).map rowI).length + (c.map rowI).length) 8 := room8 (by omega)
          have hr1 := hrr1 c ⟨by simp, fun d hd => by simp at hd; subst hd; omega⟩
          have hw := hwi (heldL o ++ c) (by rw [List.length_append]; omega)
          have hm := hmo (heldL o ++ c) (withP_short hs (by rw [List.length_append]; omega))
          obtain ⟨b, o', s', hA, hb, ho', hs1, hs2⟩ := hAs o s c (by omega) (by omega) (by omega)
          generalize hpp : fpf (heldL o ++ c) = fp at hb hm
          generalize rcf c = rc at hb hr1
          simp only [List.map_append, List.map_cons, List.map_nil, rowC] at hw hm hr1
          have hlen' : (heldL o').length ≤ (k + 1) * 60 := by
            rw [ho']
            split
            · rw [List.length_append]; omega
            · omega
          obtain ⟨m, s2, hM, hfm, hs3, hs4⟩ := hMo o' s' (by omega) (by omega)
          have hw2 := hwi (heldL o') (by omega)
          have hm2 := hmo (heldL o') (withP_short hs (by omega))
          have hfl2 := hfl (heldL o')
          generalize hpq : fpf (heldL o') = fp2 at hm2 hfm hfl2
          have ih := fun st' => ih (o', s2) st' ⟨hlen', by simp only; omega, by simp only; omega⟩
          simp only at ih
          cases r with
          | false =>
            simp only [Bool.false_and] at hb
            subst hb
            simp only [Bool.false_eq_true, if_false] at ho'
            rw [ho'] at hw2 hm2 ih
            simp only [List.map_cons, List.map_nil, List.map_append, rowM] at hw2 hm2 ih
            rcases hfm with ⟨rfl, rfl⟩ | ⟨rfl, hst2⟩
            · simp (config := { maxSteps := 4000000 }) (disch := first | (intros; contradiction) | omega) only [go_sem, hlt, hrow, hk0, hcl, ha, hAV_ren, hAV_refs, hfit, hroom, hroom2, hrr, hr1, hw, hm, hA, hM, rowM, hw2, hm2, hwk]
              exact ih _ (by simp (config := { maxSteps := 4000000 }) (disch := first | (intros; contradiction) | omega) only [go_sem, hAV_ren, hAV_refs, List.map_append] <;> rfl)
            · have htr := htr m m (hfl2 m (by simp))
              by_cases hn0 : 0 < f.n
              · have hs21 : ¬ s2 < 1 := by have := hst2 hn0; omega
                simp (config := { maxSteps := 4000000 }) (disch := first | (intros; contradiction) | omega) only [go_sem, hlt, hrow, hk0, hcl, ha, hAV_ren, hAV_refs, hfit, hroom, hroom2, hrr, hr1, hw, hm, hA, hM, rowM, hw2, hm2, htr, hst, hwk, hn0, hs21]
                exact ih _ (by simp (config := { maxSteps := 4000000 }) (disch := first | (intros; contradiction) | omega) only [go_sem, hAV_ren, hAV_refs, List.map_append] <;> rfl)
              · simp (config := { maxSteps := 4000000 }) (disch := first | (intros; contradiction) | omega) only [go_sem, hlt, hrow, hk0, hcl, ha, hAV_ren, hAV_refs, hfit, hroom, hroom2, hrr, hr1, hw, hm, hA, hM, rowM, hw2, hm2, htr, hst, hwk, hn0]
                exact ih _ (by simp (config := { maxSteps := 4000000 }) (disch := first | (intros; contradiction) | omega) only [go_sem, hAV_ren, hAV_refs, List.map_append] <;> rfl)
          | true =>
            cases rc with
            | false =>
              simp only [Bool.false_and, Bool.and_false] at hb
              subst hb
              simp only [Bool.false_eq_true, if_false] at ho'
              rw [ho'] at hw2 hm2 ih
              simp only [List.map_cons, List.map_nil, List.map_append, rowM] at hw2 hm2 ih
              rcases hfm with ⟨rfl, rfl⟩ | ⟨rfl, hst2⟩
              · simp (config := { maxSteps := 4000000 }) (disch := first | (intros; contradiction) | omega) only [go_sem, hlt, hrow, hk0, hcl, ha, hAV_ren, hAV_refs, hfit, hroom, hroom2, hrr, hr1, hw, hm, hA, hM, rowM, hw2, hm2, hwk]
                exact ih _ (by simp (config := { maxSteps := 4000000 }) (disch := first | (intros; contradiction) | omega) only [go_sem, hAV_ren, hAV_refs, List.map_append] <;> rfl)
              · have htr := htr m m (hfl2 m (by simp))
                by_cases hn0 : 0 < f.n
                · have hs21 : ¬ s2 < 1 := by have := hst2 hn0; omega
                  simp (config := { maxSteps := 4000000 }) (disch := first | (intros; contradiction) | omega) only [go_sem, hlt, hrow, hk0, hcl, ha, hAV_ren, hAV_refs, hfit, hroom, hroom2, hrr, hr1, hw, hm, hA, hM, rowM, hw2, hm2, htr, hst, hwk, hn0, hs21]
                  exact ih _ (by simp (config := { maxSteps := 4000000 }) (disch := first | (intros; contradiction) | omega) only [go_sem, hAV_ren, hAV_refs, List.map_append] <;> rfl)
                · simp (config := { maxSteps := 4000000 }) (disch := first | (intros; contradiction) | omega) only [go_sem, hlt, hrow, hk0, hcl, ha, hAV_ren, hAV_refs, hfit, hroom, hroom2, hrr, hr1, hw, hm, hA, hM, rowM, hw2, hm2, htr, hst, hwk, hn0]
                  exact ih _ (by simp (config := { maxSteps := 4000000 }) (disch := first | (intros; contradiction) | omega) only [go_sem, hAV_ren, hAV_refs, List.map_append] <;> rfl)
            | true =>
              simp only [Bool.true_and] at hb
              cases fp with
              | nil =>
                have hb : b = false := hb
                subst hb
                simp only [Bool.false_eq_true, if_false] at ho'
                rw [ho'] at hw2 hm2 ih
                simp only [List.map_cons, List.map_nil, List.map_append, rowM] at hw2 hm2 ih
                rcases hfm with ⟨rfl, rfl⟩ | ⟨rfl, hst2⟩
                · simp (config := { maxSteps := 4000000 }) (disch := first | (intros; contradiction) | omega) only [go_sem, hlt, hrow, hk0, hcl, ha, hAV_ren, hAV_refs, hfit, hroom, hroom2, hrr, hr1, hw, hm, hA, hM, rowM, hw2, hm2, hwk]
                  exact ih _ (by simp (config := { maxSteps := 4000000 }) (disch := first | (intros; contradiction) | omega) only [go_sem, hAV_ren, hAV_refs, List.map_append] <;> rfl)
                · have htr := htr m m (hfl2 m (by simp))
                  by_cases hn0 : 0 < f.n
                  · have hs21 : ¬ s2 < 1 := by have := hst2 hn0; omega
                    simp (config := { maxSteps := 4000000 }) (disch := first | (intros; contradiction) | omega) only [go_sem, hlt, hrow, hk0, hcl, ha, hAV_ren, hAV_refs, hfit, hroom, hroom2, hrr, hr1, hw, hm, hA, hM, rowM, hw2, hm2, htr, hst, hwk, hn0, hs21]
                    exact ih _ (by simp (config := { maxSteps := 4000000 }) (disch := first | (intros; contradiction) | omega) only [go_sem, hAV_ren, hAV_refs, List.map_append] <;> rfl)
                  · simp (config := { maxSteps := 4000000 }) (disch := first | (intros; contradiction) | omega) only [go_sem, hlt, hrow, hk0, hcl, ha, hAV_ren, hAV_refs, hfit, hroom, hroom2, hrr, hr1, hw, hm, hA, hM, rowM, hw2, hm2, htr, hst, hwk, hn0]
                    exact ih _ (by simp (config := { maxSteps := 4000000 }) (disch := first | (intros; contradiction) | omega) only [go_sem, hAV_ren, hAV_refs, List.map_append] <;> rfl)
              | cons w0 t0 =>
                have hb : b = true := hb.trans (by simp)
                have hp0 : (0 : Int) < (((t0.map rowM).length + 1 : Nat) : Int) := by omega
                have hp1 : ¬ (((t0.map rowM).length + 1 : Nat) : Int) ≤ 0 := by omega
                subst hb
                simp only [if_true] at ho'
                rw [ho'] at hw2 hm2 ih
                simp only [List.map_cons, List.map_nil, List.map_append, rowM] at hw2 hm2 ih
                rw [ho'] at hpq
                have hpq := hpp.symm.trans hpq
                rcases hfm with ⟨h, _⟩ | ⟨h, hst2⟩
                · rw [h] at hpq; cases hpq
                rw [h] at hpq
                simp only [List.cons.injEq] at hpq
                obtain ⟨rfl, rfl⟩ := hpq
                subst h
                clear hw2 hm2
                have htr := htr w0 w0 (hfl2 w0 (by simp))
                by_cases hn0 : 0 < f.n
                · have hs21 : ¬ s2 < 1 := by have := hst2 hn0; omega
                  simp (config := { maxSteps := 4000000 }) (disch := first | (intros; contradiction) | omega) only [go_sem, hlt, hrow, hk0, hcl, ha, hAV_ren, hAV_refs, hfit, hroom, hroom2, hrr, hr1, hw, hm, hA, hM, rowM, htr, hst, hp0, hp1, hwk, hn0, hs21]
                  exact ih _ (by simp (config := { maxSteps := 4000000 }) (disch := first | (intros; contradiction) | omega) only [go_sem, hAV_ren, hAV_refs, List.map_append] <;> rfl)
                · simp (config := { maxSteps := 4000000 }) (disch := first | (intros; contradiction) | omega) only [go_sem, hlt, hrow, hk0, hcl, ha, hAV_ren, hAV_refs, hfit, hroom, hroom2, hrr, hr1, hw, hm, hA, hM, rowM, htr, hst, hp0, hp1, hwk, hn0]
                  exact ih _ (by simp (config := { maxSteps := 4000000 }) (disch := first | (intros; contradiction) | omega) only [go_sem, hAV_ren, hAV_refs, List.map_append] <;> rfl)
      · rintro k ⟨o, s⟩ ⟨i1, i2, i3⟩ hlt hk next
        simp only at i1 i2 i3 ⊢
        clear hL
        have hw0 : IntKind.wrap .i64 0 = 0 := rfl
        simp (config := { maxSteps := 4000000 }) (disch := first | (intros; contradiction) | omega) only [go_sem, hlt, hz1, hz2, hz3, ha, hAV_ren, hAV_refs, hw0]
end Go.Proofs.Ytchedkjlhjfadaa
