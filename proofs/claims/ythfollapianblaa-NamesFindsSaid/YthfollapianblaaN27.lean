/- The document's checker: a program. Conditions: none. -/
import Derived.Test.YthfollapianblaaN26
set_option linter.unusedSimpArgs false
set_option linter.unusedVariables false
namespace Go.Proofs.Ythfollapianblaa
open Go Go.Ab
variable {ext : Sem'}
def pos60 (l : List Fn0) : Int × Int := match l[60]? with
  | some s => (s.at_.line, s.at_.col)
  | none => (0, 0)
theorem functionsK_nil (p : Pr0) : functionsK p [] = .ok () := rfl
set_option maxHeartbeats 8000000 in
theorem rcheck_e (hx : T0 ext) (p : Pr0) (hp : OkP p) : G ext 10 [p.av] [] = some (.ret (dgOf (checkP p)).av, []) := by
  have hc : OkC ⟨p, none, [], Dg.zero, 0⟩ := ⟨hp, Nat.zero_le _⟩
  obtain ⟨c1, e1, e2⟩ := cstructs_e hx hc rfl
  have hfl : (p.funcs.map Fn0.row).length = p.funcs.length := List.length_map _
  have hfn := hp.funcs
  have h0 : AObj.cells [.d (.sl (p.structs.map Sr0.row)), .d (.sl (p.funcs.map Fn0.row)), .d (.str []), .full [], .d (.bool false), .d (.str []), .full [], .d (.int .i64 0), .d (.int .i64 0), .d (.sl []), .d (.int .i64 0), .d (.int .i64 0), .d (.int .i64 0), .d (.int .i64 0), .d (.int .i64 0)] = ckO ⟨p, none, [], Dg.zero, 0⟩ := rfl
  unfold Pr0.av Dg.av
  rw [G_body hx.clear rfl Try.func10 rfl Try.results10 hv_10 rfl]
  simp (maxSteps := 4000000) (disch := first | (intros; contradiction) | omega) only [go_sem, h0, e1]
  generalize hL : loopA _ _ _ = L
  generalize hC : checkP p = C
  have hC1 : (c1 = ⟨p, none, [], Dg.zero, 0⟩ ∧ C = funcsP p) ∨ ∃ d, C = .error d ∧ c1 = Ck.setD ⟨p, none, [], Dg.zero, 0⟩ d ∧ d.what ≠ 0 := by
    rw [← hC]
    unfold checkP
    rcases e2 with ⟨r1, r2⟩ | ⟨d, r1, r2, r3⟩
    · exact .inl ⟨r2, by rw [r1, andT_ok]⟩
    · exact .inr ⟨d, by rw [r1, andT_err], r2, r3⟩
  clear hC e1 e2
  apply loop_upd hL (by simp (maxSteps := 4000000) (disch := first | (intros; contradiction) | omega) only [go_sem] <;> rfl) (fun x : Nat × Ck => x.1 ≤ p.funcs.length ∧ x.2 = (if x.1 ≤ 60 then c1 else c1.ask false 2 (pos60 p.funcs))) (fun x => p.funcs.length - x.1) (fun x => [(4, .d (.int .i64 x.1))]) (fun x => [(2, ckO x.2)]) (0, c1) (by simp (maxSteps := 4000000) (disch := first | (intros; contradiction) | omega) only [go_sem] <;> rfl) ⟨Nat.zero_le _, by simp⟩ ?_
  clear hL
  rintro ⟨i, c2⟩ ⟨h1, h2⟩ next ih
  simp only at h1 h2 ih ⊢
  have hi0 : (0 : Int) ≤ (i : Int) := by omega
  by_cases hil : i < p.funcs.length
  · have hlt : (i : Int) < (p.funcs.length : Int) := by omega
    have hx1 : p.funcs[i]? = some p.funcs[i] := List.getElem?_eq_getElem hil
    have hr1 : (p.funcs.map Fn0.row)[i]? = some (Fn0.row p.funcs[i]) := by rw [List.getElem?_map, hx1]; rfl
    generalize p.funcs[i] = f at hx1 hr1
    simp only [Fn0.row] at hr1
    have hwi : IntKind.wrap .i64 ((i : Int) + 1) = ((i + 1 : Nat) : Int) := by rw [wrap64 (by omega) (by omega)]; omega
    have ha := cask_e hx c2 (decide ((i : Int) < 60)) 2 f.at_.line f.at_.col
    have hnew : c2.ask (decide ((i : Int) < 60)) 2 (f.at_.line, f.at_.col) = (if i + 1 ≤ 60 then c1 else c1.ask false 2 (pos60 p.funcs)) := by
      by_cases h60 : i < 60
      · rw [decide_eq_true (by omega), ask_true, h2, if_pos (by omega), if_pos (by omega)]
      · rw [decide_eq_false (by omega), if_neg (by omega)]
        by_cases he : i = 60
        · subst he
          have hp60 : pos60 p.funcs = (f.at_.line, f.at_.col) := by unfold pos60; rw [hx1]
          rw [h2, if_pos (by omega), hp60]
        · rw [if_neg (by omega)] at h2
          rw [h2]
          refine ask_bad ?_ _ _ _
          cases hb1 : c1.bad with
          | true => rw [ask_bad hb1]; exact hb1
          | false => rw [ask_false hb1]; exact setD_bad c1 (show (2 : Int) ≠ 0 by decide)
    generalize c2.ask (decide ((i : Int) < 60)) 2 (f.at_.line, f.at_.col) = c3 at ha hnew
    simp (maxSteps := 4000000) (disch := first | (intros; contradiction) | omega) only [go_sem, hfl, hlt, hi0, hr1, ha, hwi]
    exact ih (i + 1, c3) _ ⟨by omega, hnew⟩ (by omega) (by simp (maxSteps := 4000000) (disch := first | (intros; contradiction) | omega) only [go_sem] <;> rfl)
  · have hlt : ¬ (i : Int) < (p.funcs.length : Int) := by omega
    have hie : i = p.funcs.length := by omega
    have hC2 : (c2 = ⟨p, none, [], Dg.zero, 0⟩ ∧ p.funcs.length ≤ 60 ∧ C = andT (namesK (p.funcs.take 0) (p.funcs.drop 0)) fun _ => andT (functionsK p p.funcs) fun _ => mustP (mainB p) 9 ⟨1, 1⟩ (.ok ())) ∨ ∃ d, C = .error d ∧ c2 = Ck.setD ⟨p, none, [], Dg.zero, 0⟩ d ∧ d.what ≠ 0 := by
      rcases hC1 with ⟨r1, r2⟩ | ⟨d, r1, r2, r3⟩
      · unfold funcsP limF at r2
        by_cases h60 : p.funcs.length ≤ 60
        · rw [if_pos (by omega)] at h2
          rw [List.getElem?_eq_none (by omega)] at r2
          exact .inl ⟨by rw [h2, r1], h60, r2⟩
        · rw [if_neg (by omega)] at h2
          have hg : p.funcs[60]? = some p.funcs[60] := List.getElem?_eq_getElem (by omega)
          rw [hg] at r2
          have hp60 : pos60 p.funcs = ((p.funcs[60]'(by omega)).at_.line, (p.funcs[60]'(by omega)).at_.col) := by unfold pos60; rw [hg]
          refine .inr ⟨_, r2, ?_, show (2 : Int) ≠ 0 by decide⟩
          rw [h2, r1, ask_false rfl, hp60]
      · have hb1 : c1.bad = true := by rw [r2]; exact setD_bad _ r3
        refine .inr ⟨d, r1, ?_, r3⟩
        rw [h2]
        split
        · exact r2
        · rw [ask_bad hb1]; exact r2
    clear hC1 h2 ih
    simp (maxSteps := 4000000) (disch := first | (intros; contradiction) | omega) only [go_sem, hfl, hlt]
    generalize hL : loopA _ _ _ = L
    apply loop_upd hL (by simp (maxSteps := 4000000) (disch := first | (intros; contradiction) | omega) only [go_sem] <;> rfl) (fun x : Nat × Ck => x.1 ≤ p.funcs.length ∧ ((x.2 = ⟨p, none, [], Dg.zero, 0⟩ ∧ p.funcs.length ≤ 60 ∧ C = andT (namesK (p.funcs.take x.1) (p.funcs.drop x.1)) fun _ => andT (functionsK p p.funcs) fun _ => mustP (mainB p) 9 ⟨1, 1⟩ (.ok ())) ∨ ∃ d, C = .error d ∧ x.2 = Ck.setD ⟨p, none, [], Dg.zero, 0⟩ d ∧ d.what ≠ 0)) (fun x => p.funcs.length - x.1) (fun x => [(5, .d (.int .i64 x.1))]) (fun x => [(2, ckO x.2)]) (0, c2) (by simp (maxSteps := 4000000) (disch := first | (intros; contradiction) | omega) only [go_sem] <;> rfl) ⟨Nat.zero_le _, hC2⟩ ?_
    clear hL hC2
    clear hie hlt h1 hi0 hil
    rintro ⟨i, c2⟩ ⟨h1, h2⟩ next2 ih
    simp only at h1 h2 ih ⊢
    have hi0 : (0 : Int) ≤ (i : Int) := by omega
    by_cases hgo : i < p.funcs.length ∧ i < 60
    · obtain ⟨hil, hi60⟩ := hgo
      have hlt : (i : Int) < (p.funcs.length : Int) := by omega
      have hlt60 : (i : Int) < 60 := by omega
      have hx1 : p.funcs[i]? = some p.funcs[i] := List.getElem?_eq_getElem hil
      have hr1 : (p.funcs.map Fn0.row)[i]? = some (Fn0.row p.funcs[i]) := by rw [List.getElem?_map, hx1]; rfl
      have hd1 : p.funcs.drop i = p.funcs[i] :: p.funcs.drop (i + 1) := List.drop_eq_getElem_cons hil
      have hts := take_snoc hx1
      rw [hd1] at h2
      generalize p.funcs[i] = f at hx1 hr1 h2 hts
      simp only [namesK] at h2
      simp only [Fn0.row] at hr1
      have hfu := rfunc_e hx p f.name hp.funcs
      unfold Pr0.av at hfu
      have hfi := idxN_first hx1 (nmF_self f)
      have hwi : IntKind.wrap .i64 ((i : Int) + 1) = ((i + 1 : Nat) : Int) := by rw [wrap64 (by omega) (by omega)]; omega
      have ha := cask_e hx c2 (!(p.funcs.take i).any (nmF f.name)) 6 f.at_.line f.at_.col
      have hnew : (c2.ask (!(p.funcs.take i).any (nmF f.name)) 6 (f.at_.line, f.at_.col) = ⟨p, none, [], Dg.zero, 0⟩ ∧ p.funcs.length ≤ 60 ∧ C = andT (namesK (p.funcs.take (i + 1)) (p.funcs.drop (i + 1))) fun _ => andT (functionsK p p.funcs) fun _ => mustP (mainB p) 9 ⟨1, 1⟩ (.ok ())) ∨ ∃ d, C = .error d ∧ c2.ask (!(p.funcs.take i).any (nmF f.name)) 6 (f.at_.line, f.at_.col) = Ck.setD ⟨p, none, [], Dg.zero, 0⟩ d ∧ d.what ≠ 0 := by
        rcases h2 with ⟨r1, r2, r3⟩ | ⟨d, r1, r2, r3⟩
        · subst r1
          rcases ask_cases (c := ⟨p, none, [], Dg.zero, 0⟩) rfl (!(p.funcs.take i).any (nmF f.name)) (show (6 : Int) ≠ 0 by decide) f.at_ with ⟨v1, v2⟩ | ⟨v1, v2, v3⟩
          · rw [v1, must_t] at r3
            exact .inl ⟨v2, r2, by rw [hts]; exact r3⟩
          · rw [v1, must_f, andT_err] at r3
            exact .inr ⟨_, r3, v2, show (6 : Int) ≠ 0 by decide⟩
        · exact .inr ⟨d, r1, by rw [ask_bad (by rw [r2]; exact setD_bad _ r3)]; exact r2, r3⟩
      generalize c2.ask (!(p.funcs.take i).any (nmF f.name)) 6 (f.at_.line, f.at_.col) = c3 at ha hnew
      clear h2
      simp (maxSteps := 4000000) (disch := first | (intros; contradiction) | omega) only [go_sem, hfl, hlt, hlt60, hi0, hr1, hfu, hfi, ha, hwi]
      exact ih (i + 1, c3) _ ⟨by omega, hnew⟩ (by omega) (by simp (maxSteps := 4000000) (disch := first | (intros; contradiction) | omega) only [go_sem] <;> rfl)
    · have hD0 : OkC c2 ∧ c2.p = p ∧ c2.inn = 0 ∧ ((c2.d = Dg.zero ∧ C = andT (functionsK p (p.funcs.drop 0)) fun _ => mustP (mainB p) 9 ⟨1, 1⟩ (.ok ())) ∨ ∃ d, C = .error d ∧ c2.d = d ∧ d.what ≠ 0) := by
        rcases h2 with ⟨r1, r2, r3⟩ | ⟨d, r1, r2, r3⟩
        · rw [r1]
          rw [List.drop_eq_nil_of_le (by omega)] at r3
          exact ⟨hc, rfl, rfl, .inl ⟨rfl, r3⟩⟩
        · rw [r2]
          exact ⟨hc.setD d, rfl, rfl, .inr ⟨d, r1, rfl, r3⟩⟩
      have hex : (¬ (i : Int) < (p.funcs.length : Int)) ∨ ((i : Int) < (p.funcs.length : Int) ∧ ¬ (i : Int) < 60) := by omega
      clear h2 ih
      rcases hex with hlt | ⟨hlt, hlt60⟩
      all_goals
        try simp (maxSteps := 4000000) (disch := first | (intros; contradiction) | omega) only [go_sem, hfl, hlt, hlt60]
        try simp (maxSteps := 4000000) (disch := first | (intros; contradiction) | omega) only [go_sem, hfl, hlt]
        generalize hL : loopA _ _ _ = L
        apply loop_upd hL (by simp (maxSteps := 4000000) (disch := first | (intros; contradiction) | omega) only [go_sem] <;> rfl) (fun x : Nat × Ck => x.1 ≤ p.funcs.length ∧ OkC x.2 ∧ x.2.p = p ∧ x.2.inn = 0 ∧ ((x.2.d = Dg.zero ∧ C = andT (functionsK p (p.funcs.drop x.1)) fun _ => mustP (mainB p) 9 ⟨1, 1⟩ (.ok ())) ∨ ∃ d, C = .error d ∧ x.2.d = d ∧ d.what ≠ 0)) (fun x => p.funcs.length - x.1) (fun x => [(6, .d (.int .i64 x.1))]) (fun x => [(2, ckO x.2)]) (0, c2) (by simp (maxSteps := 4000000) (disch := first | (intros; contradiction) | omega) only [go_sem] <;> rfl) ⟨Nat.zero_le _, hD0⟩ ?_
        clear hL
        rintro ⟨j, c3⟩ ⟨m1, m2, m3, m4, m5⟩ next3 ih3
        simp only at m1 m2 m3 m4 m5 ih3 ⊢
        have hj0 : (0 : Int) ≤ (j : Int) := by omega
        have hb3 := cbad_e hx c3
        by_cases hgo2 : j < p.funcs.length ∧ c3.bad = false
        · obtain ⟨hjl, hbg⟩ := hgo2
          rw [hbg] at hb3
          have hltj : (j : Int) < (p.funcs.length : Int) := by omega
          have hx1 : p.funcs[j]? = some p.funcs[j] := List.getElem?_eq_getElem hjl
          have hxm := List.mem_of_getElem? hx1
          have hr1 : (p.funcs.map Fn0.row)[j]? = some (Fn0.row p.funcs[j]) := by rw [List.getElem?_map, hx1]; rfl
          have hd1 : p.funcs.drop j = p.funcs[j] :: p.funcs.drop (j + 1) := List.drop_eq_getElem_cons hjl
          rw [hd1] at m5
          generalize p.funcs[j] = f at hx1 hxm hr1 m5
          simp only [functionsK] at m5
          simp only [Fn0.row] at hr1
          have hwj : IntKind.wrap .i64 ((j : Int) + 1) = ((j + 1 : Nat) : Int) := by rw [wrap64 (by omega) (by omega)]; omega
          obtain ⟨c4, f1, f2, f3, f4, f5, f6⟩ := cfunction_e hx (f := f) m2 hbg m4 (hp.size f hxm) (hp.ok f hxm)
          have hnew : (c4.d = Dg.zero ∧ C = andT (functionsK p (p.funcs.drop (j + 1))) fun _ => mustP (mainB p) 9 ⟨1, 1⟩ (.ok ())) ∨ ∃ d, C = .error d ∧ c4.d = d ∧ d.what ≠ 0 := by
            rcases m5 with ⟨r1, r2⟩ | ⟨d, r1, r2, r3⟩
            · rw [m3] at f5 f6
              cases hfp : functionP p f with
              | ok u => exact .inl ⟨by rw [f5 hfp, r1], by rw [hfp, andT_ok] at r2; exact r2⟩
              | error d =>
                obtain ⟨q1, q2⟩ := f6 d hfp
                exact .inr ⟨d, by rw [hfp, andT_err, andT_err] at r2; exact r2, q1, q2⟩
            · exfalso
              unfold Ck.bad at hbg
              rw [r2] at hbg
              simp at hbg
              exact r3 hbg
          clear m5 f5 f6
          simp (maxSteps := 4000000) (disch := first | (intros; contradiction) | omega) only [go_sem, hfl, hltj, hb3, hj0, hr1, f1, hwj]
          exact ih3 (j + 1, c4) _ ⟨by omega, f2, f3.trans m3, f4, hnew⟩ (by omega) (by simp (maxSteps := 4000000) (disch := first | (intros; contradiction) | omega) only [go_sem] <;> rfl)
        · have hfin : ∀ b, b = mainB p → (c3.ask b 9 (1, 1)).d = dgOf C := fun b hbm => by
            subst hbm
            rcases m5 with ⟨r1, r2⟩ | ⟨d, r1, r2, r3⟩
            · have hbg : c3.bad = false := by unfold Ck.bad; rw [r1]; rfl
              have hjl : ¬ j < p.funcs.length := fun h => hgo2 ⟨h, hbg⟩
              rw [List.drop_eq_nil_of_le (by omega), functionsK_nil, andT_ok] at r2
              rw [r2]
              cases mainB p with
              | true => rw [ask_true]; exact r1
              | false => rw [ask_false hbg]; rfl
            · have hbg : c3.bad = true := by unfold Ck.bad; rw [r2]; simpa using r3
              rw [ask_bad hbg, r1]; exact r2
          have hex2 : (¬ (j : Int) < (p.funcs.length : Int)) ∨ ((j : Int) < (p.funcs.length : Int) ∧ c3.bad = true) := by
            by_cases h : j < p.funcs.length
            · right
              refine ⟨by omega, ?_⟩
              cases hbx : c3.bad with
              | true => rfl
              | false => exact absurd ⟨h, hbx⟩ hgo2
            · left; omega
          clear m5 ih3
          have hfm := rfunc_e hx p [109, 97, 105, 110] hp.funcs
          unfold Pr0.av at hfm
          unfold mainB at hfin
          rcases idxN_get (p := nmF [109, 97, 105, 110]) (l := p.funcs) with ⟨i1, i2⟩ | ⟨i', f, i1, i2, i3, i4⟩
          · rw [i2] at hfin
            have hfi := hfin false rfl
            rw [← hfi]
            have ha := cask_e hx c3 false 9 1 1
            have i0 : ¬ (0 : Int) ≤ idxN (nmF [109, 97, 105, 110]) p.funcs := by omega
            clear hfin hfi
            generalize c3.ask false 9 (1, 1) = c5 at ha ⊢
            rcases hex2 with hlt2 | ⟨hlt2, hb4⟩
            · simp (maxSteps := 4000000) (disch := first | (intros; contradiction) | omega) only [go_sem, hfl, hlt2, hfm, i0, ha]
              done
            · rw [hb4] at hb3
              simp (maxSteps := 4000000) (disch := first | (intros; contradiction) | omega) only [go_sem, hfl, hlt2, hb3, hfm, i0, ha]
              done
          · rw [i4] at hfin
            simp only at hfin
            rw [i1] at hfm
            have hr1 : (p.funcs.map Fn0.row)[i']? = some (Fn0.row f) := by rw [List.getElem?_map, i3]; rfl
            simp only [Fn0.row] at hr1
            have i0 : (0 : Int) ≤ (i' : Int) := by omega
            have i5 : ¬ (i' : Int) < 0 := by omega
            have hpl : (f.params.map Fl0.row).length = f.params.length := List.length_map _
            have hlast : ∀ b, b = (f.params.isEmpty && !f.ret.ptr) → (c3.ask b 9 (1, 1)).d = dgOf C := hfin
            by_cases hpe : f.params.length = 0
            · have hpe' : (f.params.length : Int) = 0 := by omega
              have he : f.params.isEmpty = true := by simpa using List.length_eq_zero_iff.1 hpe
              have hfi := hlast (!f.ret.ptr) (by rw [he]; rfl)
              rw [← hfi]
              have ha := cask_e hx c3 (!f.ret.ptr) 9 1 1
              clear hfin hfi hlast
              generalize c3.ask (!f.ret.ptr) 9 (1, 1) = c5 at ha ⊢
              rcases hex2 with hlt2 | ⟨hlt2, hb4⟩
              · simp (maxSteps := 4000000) (disch := first | (intros; contradiction) | omega) only [go_sem, hfl, hlt2, hfm, i0, i5, hr1, hpl, hpe', ha]
                done
              · rw [hb4] at hb3
                simp (maxSteps := 4000000) (disch := first | (intros; contradiction) | omega) only [go_sem, hfl, hlt2, hb3, hfm, i0, i5, hr1, hpl, hpe', ha]
                done
            · have hpe' : ¬ (f.params.length : Int) = 0 := by omega
              have he : f.params.isEmpty = false := by
                cases hh : f.params.isEmpty with
                | false => rfl
                | true => exact absurd (List.length_eq_zero_iff.2 (by simpa using hh)) hpe
              have hfi := hlast false (by rw [he]; rfl)
              rw [← hfi]
              have ha := cask_e hx c3 false 9 1 1
              clear hfin hfi hlast
              generalize c3.ask false 9 (1, 1) = c5 at ha ⊢
              rcases hex2 with hlt2 | ⟨hlt2, hb4⟩
              · simp (maxSteps := 4000000) (disch := first | (intros; contradiction) | omega) only [go_sem, hfl, hlt2, hfm, i0, i5, hr1, hpl, hpe', ha]
                done
              · rw [hb4] at hb3
                simp (maxSteps := 4000000) (disch := first | (intros; contradiction) | omega) only [go_sem, hfl, hlt2, hb3, hfm, i0, i5, hr1, hpl, hpe', ha]
                done
end Go.Proofs.Ythfollapianblaa
