/- The document's checker: any expression. Conditions: none. -/
import Derived.Test.YthfollapianblaaNC
set_option linter.unusedSimpArgs false
set_option linter.unusedVariables false
namespace Go.Proofs.Ythfollapianblaa
open Go Go.Ab
variable {ext : Sem'}
theorem len_one {α : Type} {l : List α} (h : l.length = 1) : ∃ x, l = [x] := List.length_eq_one_iff.1 h
theorem len_two {α : Type} {l : List α} (h : l.length = 2) : ∃ x y, l = [x, y] := by
  match l, h with
  | [x, y], _ => exact ⟨x, y, rfl⟩
theorem RelE.bad {c c' : Ck} {x : Except Dg Tp} {t : Tp} (h : RelE c x t c') (hb : c.bad = true) : c' = c := h.2.1 hb
set_option maxHeartbeats 8000000 in
theorem cexpr_e (hx : T0 ext) : ∀ (m : Nat) (e : Ex0), cntE e ≤ m → m ≤ 1000000 → okE e → ∀ c, OkC c → ExprC ext c e := by
  intro m
  induction m using Nat.strongRecOn with
  | ind m ih =>
    intro e hm hm2 hok c hc
    obtain ⟨k, n, s, o, ks, at_⟩ := e
    have hcnt : cntEs ks + 1 ≤ m := by simp only [cntE] at hm; omega
    obtain ⟨har, hoks⟩ : arity k ks.length ∧ okEs ks := hok
    have ihk : ∀ x, x ∈ ks → ∀ c, OkC c → ExprC ext c x := fun x hxm c hc => ih (cntE x) (by have := cntEs_mem hxm; omega) x (Nat.le_refl _) (by have := cntEs_mem hxm; omega) (okEs_mem hoks hxm) c hc
    have hkl := cntEs_len ks
    have hb1 := cbad_e hx c
    unfold ExprC
    cases hb : c.bad with
    | true =>
      rw [hb] at hb1
      refine ⟨⟨false, []⟩, c, ?_, rel_bad hc hb⟩
      unfold Ex0.agg
      simp only [Ex0.kind, Ex0.n, Ex0.name, Ex0.op, Ex0.kids, Ex0.pos]
      rw [G_body hx.clear rfl Try.func74 rfl Try.results74 hv_74 rfl]
      simp (maxSteps := 4000000) (disch := first | (intros; contradiction) | omega) only [go_sem, hb1]
      done
    | false =>
    rw [hb] at hb1
    by_cases k2 : k = 2
    · subst k2
      have hl := clook_e hx c s hc.seen
      simp only [exprP]
      unfold exprK
      simp only [if_true]
      unfold Ex0.agg
      simp only [Ex0.kind, Ex0.n, Ex0.name, Ex0.op, Ex0.kids, Ex0.pos]
      cases hlk : lookP c.seen s with
      | none =>
        have ha := cask_e hx c false 5 at_.line at_.col
        rw [hlk] at hl
        unfold lookAV at hl
        refine ⟨⟨false, []⟩, c.ask false 5 (at_.line, at_.col), ?_, rel_must (b := false) (u := ⟨false, []⟩) hc hb (show (5 : Int) ≠ 0 by decide) (fun h => by cases h)⟩
        generalize c.ask false 5 (at_.line, at_.col) = c1 at ha ⊢
        rw [G_body hx.clear rfl Try.func74 rfl Try.results74 hv_74 rfl]
        simp (maxSteps := 4000000) (disch := first | (intros; contradiction) | omega) only [go_sem, hb1, hl, ha]
        done
      | some t =>
        have ha := cask_e hx c true 5 at_.line at_.col
        rw [ask_true] at ha
        rw [hlk] at hl
        unfold lookAV at hl
        refine ⟨t, c, ?_, rel_ok hc⟩
        rw [G_body hx.clear rfl Try.func74 rfl Try.results74 hv_74 rfl]
        simp (maxSteps := 4000000) (disch := first | (intros; contradiction) | omega) only [go_sem, hb1, hl, ha]
        done
    by_cases k3 : k = 3
    · subst k3
      obtain ⟨x, rfl⟩ := len_one (har.1 rfl)
      obtain ⟨t1, c1, e1, e2⟩ := ihk x (by simp) c hc
      have hp := cpoints_e hx t1
      have ha := cask_e hx c1 (pointsP t1) 7 at_.line at_.col
      have ho1 : OkC (c1.ask (pointsP t1) 7 (at_.line, at_.col)) := e2.1.ask _ _ _
      have hp1 : (c1.ask (pointsP t1) 7 (at_.line, at_.col)).p = c1.p := ask_p _ _ _ _
      have hrel := e2.good hb
      simp only [exprP, exprsP]
      unfold exprK
      simp only [Int.reduceEq, if_false, if_true, oneK_one]
      unfold Ex0.agg at e1
      unfold Ex0.agg
      simp only [Ex0.kind, Ex0.n, Ex0.name, Ex0.op, Ex0.kids, Ex0.pos]
      rw [one_row]
      have hstep : ∀ _ : Unit, (c1.ask (pointsP t1) 7 (at_.line, at_.col) = c ∧ exprP c.p c.seen x = .ok t1 ∧ pointsP t1 = true ∧ c1 = c) ∨ (∃ d, memK c.p (exprP c.p c.seen x) s at_ at_ Except.ok = .error d ∧ c1.ask (pointsP t1) 7 (at_.line, at_.col) = c.setD d ∧ d.what ≠ 0) := fun _ => by
        rcases hrel with ⟨u, u1, u2, u3⟩ | ⟨d, u1, u2, u3, u4⟩
        · subst u2 u3
          cases hpt : pointsP t1 with
          | true => exact .inl ⟨ask_true _ _ _, u1, rfl, rfl⟩
          | false => exact .inr ⟨_, by rw [u1]; simp only [memK, andT, hpt, mustP, Bool.false_eq_true, if_false, err], ask_false hb _ _, show (7 : Int) ≠ 0 by decide⟩
        · exact .inr ⟨d, by rw [u1]; simp only [memK, andT], by rw [ask_bad u3]; exact u2, u4⟩
      have hstep := hstep ()
      have hcp : (c1.ask (pointsP t1) 7 (at_.line, at_.col)).p = c.p := by
        rw [hp1]
        rcases hrel with ⟨u, _, _, u3⟩ | ⟨d, _, u2, _⟩
        · rw [u3]
        · rw [u2]; rfl
      generalize c1.ask (pointsP t1) 7 (at_.line, at_.col) = c2 at ha ho1 hp1 hstep hcp
      have hfl := rfield_e hx c2.p t1.to s ho1.p.structs ho1.p.fields
      unfold Pr0.av at hfl
      cases hfd : fieldP c2.p t1.to s with
      | none =>
        rw [hfd] at hfl
        unfold fldA at hfl
        have ha2 := cask_e hx c2 false 5 at_.line at_.col
        refine ⟨⟨false, []⟩, c2.ask false 5 (at_.line, at_.col), ?_, ?_⟩
        · generalize c2.ask false 5 (at_.line, at_.col) = c3 at ha2 ⊢
          rw [G_body hx.clear rfl Try.func74 rfl Try.results74 hv_74 rfl]
          simp (maxSteps := 4000000) (disch := first | (intros; contradiction) | omega) only [go_sem, hb1, e1, hp, ha, hfl, ha2]
          done
        · rcases hstep with ⟨s1, s2, s3, s4⟩ | ⟨d, s1, s2, s3⟩
          · subst s1
            rw [s2]
            simp only [memK, andT, s3, mustP, if_true, hfd, gotP, err]
            rw [ask_false hb]
            exact rel_err hc hb (show (5 : Int) ≠ 0 by decide)
          · rw [s1, ask_bad (by rw [s2]; exact setD_bad c s3), s2]
            exact rel_err hc hb s3
      | some iu =>
        obtain ⟨iu1, u⟩ := iu
        rw [hfd] at hfl
        unfold fldA at hfl
        simp only at hfl
        have ha2 := cask_e hx c2 true 5 at_.line at_.col
        rw [ask_true] at ha2
        refine ⟨u, c2, ?_, ?_⟩
        · rw [G_body hx.clear rfl Try.func74 rfl Try.results74 hv_74 rfl]
          simp (maxSteps := 4000000) (disch := first | (intros; contradiction) | omega) only [go_sem, hb1, e1, hp, ha, hfl, ha2]
          done
        · rcases hstep with ⟨s1, s2, s3, s4⟩ | ⟨d, s1, s2, s3⟩
          · subst s1
            rw [s2]
            simp only [memK, andT, s3, mustP, if_true, hfd, gotP]
            exact rel_ok hc
          · rw [s1, s2]
            exact rel_err hc hb s3
    by_cases k4 : k = 4
    · subst k4
      obtain ⟨x, y, rfl⟩ := len_two (har.2.1 rfl)
      obtain ⟨t1, c1, e1, e2⟩ := ihk x (by simp) c hc
      obtain ⟨t2, c2, f1, f2⟩ := ihk y (by simp) c1 e2.1
      have ha := fun b => cask_e hx c2 b 7 at_.line at_.col
      simp only [exprP, exprsP]
      unfold exprK
      simp only [Int.reduceEq, if_false, if_true, twoK_two]
      unfold Ex0.agg at e1 f1
      unfold Ex0.agg
      simp only [Ex0.kind, Ex0.n, Ex0.name, Ex0.op, Ex0.kids, Ex0.pos]
      rw [two_row]
      refine ⟨⟨false, []⟩, c2.ask (pairB t1 t2 x.kind y.kind o) 7 (at_.line, at_.col), ?_, ?_⟩
      · clear e2 f2
        cases p1 : t1.ptr with
        | false =>
          cases p2 : t2.ptr with
          | false =>
            have hpb : pairB t1 t2 x.kind y.kind o = true := by simp [pairB, p1, p2]
            rw [hpb]
            have ha := cask_e hx c2 true 7 at_.line at_.col
            generalize c2.ask true 7 (at_.line, at_.col) = c3 at ha ⊢
            rw [G_body hx.clear rfl Try.func74 rfl Try.results74 hv_74 rfl]
            simp (maxSteps := 4000000) (disch := first | (intros; contradiction) | omega) only [go_sem, hb1, e1, f1, p1, p2, ha]
            done
          | true =>
            by_cases x6 : x.kind = 6
            · have x6t := eq_true x6
              by_cases o1 : o = [61, 61]
              · have o1t := eq_true o1
                have hpb : pairB t1 t2 x.kind y.kind o = true := by simp [pairB, p1, p2, x6, o1]
                rw [hpb]
                have ha := cask_e hx c2 true 7 at_.line at_.col
                generalize c2.ask true 7 (at_.line, at_.col) = c3 at ha ⊢
                rw [G_body hx.clear rfl Try.func74 rfl Try.results74 hv_74 rfl]
                simp (maxSteps := 4000000) (disch := first | (intros; contradiction) | omega) only [go_sem, hb1, e1, f1, p1, p2, x6t, o1t, ha]
                done
              · skip
                by_cases o2 : o = [33, 61]
                · have o2t := eq_true o2
                  have hpb : pairB t1 t2 x.kind y.kind o = true := by simp [pairB, p1, p2, x6, o1, o2]
                  rw [hpb]
                  have ha := cask_e hx c2 true 7 at_.line at_.col
                  generalize c2.ask true 7 (at_.line, at_.col) = c3 at ha ⊢
                  rw [G_body hx.clear rfl Try.func74 rfl Try.results74 hv_74 rfl]
                  simp (maxSteps := 4000000) (disch := first | (intros; contradiction) | omega) only [go_sem, hb1, e1, f1, p1, p2, x6t, o1, o2t, ha]
                  done
                · skip
                  have hpb : pairB t1 t2 x.kind y.kind o = false := by simp [pairB, p1, p2, x6, o1, o2]
                  rw [hpb]
                  have ha := cask_e hx c2 false 7 at_.line at_.col
                  generalize c2.ask false 7 (at_.line, at_.col) = c3 at ha ⊢
                  rw [G_body hx.clear rfl Try.func74 rfl Try.results74 hv_74 rfl]
                  simp (maxSteps := 4000000) (disch := first | (intros; contradiction) | omega) only [go_sem, hb1, e1, f1, p1, p2, x6t, o1, o2, ha]
                  done
            · skip
              have hpb : pairB t1 t2 x.kind y.kind o = false := by simp [pairB, p1, p2, x6]
              rw [hpb]
              have ha := cask_e hx c2 false 7 at_.line at_.col
              generalize c2.ask false 7 (at_.line, at_.col) = c3 at ha ⊢
              rw [G_body hx.clear rfl Try.func74 rfl Try.results74 hv_74 rfl]
              simp (maxSteps := 4000000) (disch := first | (intros; contradiction) | omega) only [go_sem, hb1, e1, f1, p1, p2, x6, ha]
              done
        | true =>
          cases p2 : t2.ptr with
          | false =>
            by_cases y6 : y.kind = 6
            · have y6t := eq_true y6
              by_cases o1 : o = [61, 61]
              · have o1t := eq_true o1
                have hpb : pairB t1 t2 x.kind y.kind o = true := by simp [pairB, p1, p2, y6, o1]
                rw [hpb]
                have ha := cask_e hx c2 true 7 at_.line at_.col
                generalize c2.ask true 7 (at_.line, at_.col) = c3 at ha ⊢
                rw [G_body hx.clear rfl Try.func74 rfl Try.results74 hv_74 rfl]
                simp (maxSteps := 4000000) (disch := first | (intros; contradiction) | omega) only [go_sem, hb1, e1, f1, p1, p2, y6t, o1t, ha]
                done
              · skip
                by_cases o2 : o = [33, 61]
                · have o2t := eq_true o2
                  have hpb : pairB t1 t2 x.kind y.kind o = true := by simp [pairB, p1, p2, y6, o1, o2]
                  rw [hpb]
                  have ha := cask_e hx c2 true 7 at_.line at_.col
                  generalize c2.ask true 7 (at_.line, at_.col) = c3 at ha ⊢
                  rw [G_body hx.clear rfl Try.func74 rfl Try.results74 hv_74 rfl]
                  simp (maxSteps := 4000000) (disch := first | (intros; contradiction) | omega) only [go_sem, hb1, e1, f1, p1, p2, y6t, o1, o2t, ha]
                  done
                · skip
                  have hpb : pairB t1 t2 x.kind y.kind o = false := by simp [pairB, p1, p2, y6, o1, o2]
                  rw [hpb]
                  have ha := cask_e hx c2 false 7 at_.line at_.col
                  generalize c2.ask false 7 (at_.line, at_.col) = c3 at ha ⊢
                  rw [G_body hx.clear rfl Try.func74 rfl Try.results74 hv_74 rfl]
                  simp (maxSteps := 4000000) (disch := first | (intros; contradiction) | omega) only [go_sem, hb1, e1, f1, p1, p2, y6t, o1, o2, ha]
                  done
            · skip
              have hpb : pairB t1 t2 x.kind y.kind o = false := by simp [pairB, p1, p2, y6]
              rw [hpb]
              have ha := cask_e hx c2 false 7 at_.line at_.col
              generalize c2.ask false 7 (at_.line, at_.col) = c3 at ha ⊢
              rw [G_body hx.clear rfl Try.func74 rfl Try.results74 hv_74 rfl]
              simp (maxSteps := 4000000) (disch := first | (intros; contradiction) | omega) only [go_sem, hb1, e1, f1, p1, p2, y6, ha]
              done
          | true =>
            by_cases y6 : y.kind = 6
            · have y6t := eq_true y6
              by_cases o1 : o = [61, 61]
              · have o1t := eq_true o1
                have hpb : pairB t1 t2 x.kind y.kind o = true := by simp [pairB, p1, p2, y6, o1]
                rw [hpb]
                have ha := cask_e hx c2 true 7 at_.line at_.col
                generalize c2.ask true 7 (at_.line, at_.col) = c3 at ha ⊢
                rw [G_body hx.clear rfl Try.func74 rfl Try.results74 hv_74 rfl]
                simp (maxSteps := 4000000) (disch := first | (intros; contradiction) | omega) only [go_sem, hb1, e1, f1, p1, p2, y6t, o1t, ha]
                done
              · skip
                by_cases o2 : o = [33, 61]
                · have o2t := eq_true o2
                  have hpb : pairB t1 t2 x.kind y.kind o = true := by simp [pairB, p1, p2, y6, o1, o2]
                  rw [hpb]
                  have ha := cask_e hx c2 true 7 at_.line at_.col
                  generalize c2.ask true 7 (at_.line, at_.col) = c3 at ha ⊢
                  rw [G_body hx.clear rfl Try.func74 rfl Try.results74 hv_74 rfl]
                  simp (maxSteps := 4000000) (disch := first | (intros; contradiction) | omega) only [go_sem, hb1, e1, f1, p1, p2, y6t, o1, o2t, ha]
                  done
                · skip
                  have hpb : pairB t1 t2 x.kind y.kind o = false := by simp [pairB, p1, p2, y6, o1, o2]
                  rw [hpb]
                  have ha := cask_e hx c2 false 7 at_.line at_.col
                  generalize c2.ask false 7 (at_.line, at_.col) = c3 at ha ⊢
                  rw [G_body hx.clear rfl Try.func74 rfl Try.results74 hv_74 rfl]
                  simp (maxSteps := 4000000) (disch := first | (intros; contradiction) | omega) only [go_sem, hb1, e1, f1, p1, p2, y6t, o1, o2, ha]
                  done
            · skip
              by_cases x6 : x.kind = 6
              · have x6t := eq_true x6
                by_cases o1 : o = [61, 61]
                · have o1t := eq_true o1
                  have hpb : pairB t1 t2 x.kind y.kind o = true := by simp [pairB, p1, p2, y6, x6, o1]
                  rw [hpb]
                  have ha := cask_e hx c2 true 7 at_.line at_.col
                  generalize c2.ask true 7 (at_.line, at_.col) = c3 at ha ⊢
                  rw [G_body hx.clear rfl Try.func74 rfl Try.results74 hv_74 rfl]
                  simp (maxSteps := 4000000) (disch := first | (intros; contradiction) | omega) only [go_sem, hb1, e1, f1, p1, p2, y6, x6t, o1t, ha]
                  done
                · skip
                  by_cases o2 : o = [33, 61]
                  · have o2t := eq_true o2
                    have hpb : pairB t1 t2 x.kind y.kind o = true := by simp [pairB, p1, p2, y6, x6, o1, o2]
                    rw [hpb]
                    have ha := cask_e hx c2 true 7 at_.line at_.col
                    generalize c2.ask true 7 (at_.line, at_.col) = c3 at ha ⊢
                    rw [G_body hx.clear rfl Try.func74 rfl Try.results74 hv_74 rfl]
                    simp (maxSteps := 4000000) (disch := first | (intros; contradiction) | omega) only [go_sem, hb1, e1, f1, p1, p2, y6, x6t, o1, o2t, ha]
                    done
                  · skip
                    have hpb : pairB t1 t2 x.kind y.kind o = false := by simp [pairB, p1, p2, y6, x6, o1, o2]
                    rw [hpb]
                    have ha := cask_e hx c2 false 7 at_.line at_.col
                    generalize c2.ask false 7 (at_.line, at_.col) = c3 at ha ⊢
                    rw [G_body hx.clear rfl Try.func74 rfl Try.results74 hv_74 rfl]
                    simp (maxSteps := 4000000) (disch := first | (intros; contradiction) | omega) only [go_sem, hb1, e1, f1, p1, p2, y6, x6t, o1, o2, ha]
                    done
              · skip
                have hpb : pairB t1 t2 x.kind y.kind o = false := by simp [pairB, p1, p2, y6, x6]
                rw [hpb]
                have ha := cask_e hx c2 false 7 at_.line at_.col
                generalize c2.ask false 7 (at_.line, at_.col) = c3 at ha ⊢
                rw [G_body hx.clear rfl Try.func74 rfl Try.results74 hv_74 rfl]
                simp (maxSteps := 4000000) (disch := first | (intros; contradiction) | omega) only [go_sem, hb1, e1, f1, p1, p2, y6, x6, ha]
                done
      · rcases e2.good hb with ⟨u, u1, u2, u3⟩ | ⟨d, u1, u2, u3, u4⟩
        · subst u2 u3
          rcases f2.good hb with ⟨v, v1, v2, v3⟩ | ⟨d, v1, v2, v3, v4⟩
          · subst v2 v3
            rw [u1, v1]
            simp only [andT]
            exact rel_must hc hb (show (7 : Int) ≠ 0 by decide) (fun _ => rfl)
          · rw [u1, v1]
            simp only [andT]
            rw [ask_bad v3, v2]
            exact rel_err hc hb v4
        · rw [u1]
          simp only [andT]
          have hc2 := f2.bad u3
          rw [hc2, ask_bad u3, u2]
          exact rel_err hc hb u4
    by_cases k5 : k = 5
    · subst k5
      obtain ⟨x, rfl⟩ := len_one (har.2.2 rfl)
      obtain ⟨t1, c1, e1, e2⟩ := ihk x (by simp) c hc
      have ha := cask_e hx c1 (!t1.ptr) 7 at_.line at_.col
      simp only [exprP, exprsP]
      unfold exprK
      simp only [Int.reduceEq, if_false, if_true, oneK_one]
      unfold Ex0.agg at e1
      unfold Ex0.agg
      simp only [Ex0.kind, Ex0.n, Ex0.name, Ex0.op, Ex0.kids, Ex0.pos]
      rw [one_row]
      refine ⟨⟨false, []⟩, c1.ask (!t1.ptr) 7 (at_.line, at_.col), ?_, ?_⟩
      · generalize c1.ask (!t1.ptr) 7 (at_.line, at_.col) = c2 at ha ⊢
        rw [G_body hx.clear rfl Try.func74 rfl Try.results74 hv_74 rfl]
        simp (maxSteps := 4000000) (disch := first | (intros; contradiction) | omega) only [go_sem, hb1, e1, ha]
        done
      · rcases e2.good hb with ⟨u, u1, u2, u3⟩ | ⟨d, u1, u2, u3, u4⟩
        · subst u2 u3
          rw [u1]
          simp only [andT]
          exact rel_must hc hb (show (7 : Int) ≠ 0 by decide) (fun _ => rfl)
        · rw [u1]
          simp only [andT]
          rw [ask_bad u3, u2]
          exact rel_err hc hb u4
    by_cases k6 : k = 6
    · subst k6
      simp only [exprP]
      unfold exprK
      simp only [Int.reduceEq, if_false, if_true]
      unfold Ex0.agg
      simp only [Ex0.kind, Ex0.n, Ex0.name, Ex0.op, Ex0.kids, Ex0.pos]
      refine ⟨⟨true, []⟩, c, ?_, rel_ok hc⟩
      rw [G_body hx.clear rfl Try.func74 rfl Try.results74 hv_74 rfl]
      simp (maxSteps := 4000000) (disch := first | (intros; contradiction) | omega) only [go_sem, hb1]
      done
    by_cases k7 : k = 7
    · subst k7
      simp only [exprP]
      unfold exprK
      simp only [Int.reduceEq, if_false, if_true]
      have hst := rstruct_e hx c.p s hc.p.structs
      unfold Pr0.av at hst
      have ha := cask_e hx c (decide (0 ≤ idxN (nmS s) c.p.structs)) 5 at_.line at_.col
      unfold Ex0.agg
      simp only [Ex0.kind, Ex0.n, Ex0.name, Ex0.op, Ex0.kids, Ex0.pos]
      refine ⟨⟨true, s⟩, c.ask (decide (0 ≤ idxN (nmS s) c.p.structs)) 5 (at_.line, at_.col), ?_, rel_must hc hb (show (5 : Int) ≠ 0 by decide) (fun _ => rfl)⟩
      generalize c.ask (decide (0 ≤ idxN (nmS s) c.p.structs)) 5 (at_.line, at_.col) = c2 at ha ⊢
      rw [G_body hx.clear rfl Try.func74 rfl Try.results74 hv_74 rfl]
      simp (maxSteps := 4000000) (disch := first | (intros; contradiction) | omega) only [go_sem, hb1, hst, ha]
      done
    by_cases k9 : k = 9
    · subst k9
      obtain ⟨t, c', q1, q2⟩ := ccall_e hx hc hb n s o ks at_ (by omega) ihk
      unfold Ex0.agg at q1 ⊢
      simp only [Ex0.kind, Ex0.n, Ex0.name, Ex0.op, Ex0.kids, Ex0.pos] at q1 ⊢
      refine ⟨t, c', ?_, q2⟩
      rw [G_body hx.clear rfl Try.func74 rfl Try.results74 hv_74 rfl]
      simp (maxSteps := 4000000) (disch := first | (intros; contradiction) | omega) only [go_sem, hb1, q1]
      done
    simp only [exprP]
    unfold exprK
    rw [if_neg k2, if_neg k3, if_neg k4, if_neg k5, if_neg k6, if_neg k7, if_neg k9]
    unfold Ex0.agg
    simp only [Ex0.kind, Ex0.n, Ex0.name, Ex0.op, Ex0.kids, Ex0.pos]
    refine ⟨⟨false, []⟩, c, ?_, rel_ok hc⟩
    rw [G_body hx.clear rfl Try.func74 rfl Try.results74 hv_74 rfl]
    simp (maxSteps := 4000000) (disch := first | (intros; contradiction) | omega) only [go_sem, hb1, k2, k3, k4, k5, k6, k7, k9]
    done
end Go.Proofs.Ythfollapianblaa
