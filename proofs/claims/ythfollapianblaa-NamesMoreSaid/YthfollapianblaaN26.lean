/- The document's checker: structs. Conditions: none. -/
import Derived.Test.YthfollapianblaaN25
set_option linter.unusedSimpArgs false
set_option linter.unusedVariables false
namespace Go.Proofs.Ythfollapianblaa
open Go Go.Ab
variable {ext : Sem'}
theorem ask_and (c : Ck) (b1 b2 : Bool) {f : Int} (hf : f ≠ 0) (q : Int × Int) : (c.ask b1 f q).ask b2 f q = c.ask (b1 && b2) f q := by
  cases hb : c.bad with
  | true => rw [ask_bad hb, ask_bad hb, ask_bad hb]
  | false =>
    cases b1 with
    | true => rw [ask_true, Bool.true_and]
    | false =>
      rw [ask_false hb, Bool.false_and, ask_false hb]
      exact ask_bad (setD_bad c hf) _ _ _
theorem idxP_first {α : Type} {p : α → Bool} : ∀ {l : List α} {i : Nat} {x : α}, l[i]? = some x → p x = true → (idxP p l = some i ↔ (l.take i).any p = false)
  | [], i, x, h, _ => by simp at h
  | y :: l, 0, x, h, hp => by
    simp only [List.getElem?_cons_zero, Option.some.injEq] at h
    subst h
    simp [idxP, hp]
  | y :: l, i + 1, x, h, hp => by
    simp only [List.getElem?_cons_succ] at h
    have ih := idxP_first h hp
    simp only [idxP, List.take_succ_cons, List.any_cons]
    by_cases hy : p y = true
    · simp [hy]
    · rw [if_neg hy]
      simp only [Bool.not_eq_true] at hy
      rw [hy, Bool.false_or, ← ih]
      cases idxP p l with
      | none => simp
      | some k => simp
theorem idxN_first {α : Type} {p : α → Bool} {l : List α} {i : Nat} {x : α} (h : l[i]? = some x) (hp : p x = true) : decide (idxN p l = (i : Int)) = !(l.take i).any p := by
  have := idxP_first h hp
  unfold idxN
  cases hi : idxP p l with
  | none =>
    rw [hi] at this
    have h2 : (l.take i).any p = true := by
      cases hh : (l.take i).any p with
      | true => rfl
      | false => have := this.2 hh; cases this
    rw [h2]
    simp only [Bool.not_true, decide_eq_false_iff_not]
    omega
  | some k =>
    rw [hi] at this
    cases hh : (l.take i).any p with
    | true =>
      have hne : ¬ k = i := fun e => by
        have := this.1 (by rw [e])
        rw [hh] at this; cases this
      simp only [Bool.not_true, decide_eq_false_iff_not]
      omega
    | false =>
      have := this.2 hh
      cases this
      simp
theorem any_snoc {α : Type} (l : List α) (x : α) (p : α → Bool) : (l ++ [x]).any p = (l.any p || p x) := by simp
theorem nmS_self (s : Sr0) : nmS s.name s = true := decide_eq_true rfl
theorem nmF_self (s : Fn0) : nmF s.name s = true := decide_eq_true rfl
theorem nmL_self (s : Fl0) : nmL s.name s = true := decide_eq_true rfl
def pos30 (l : List Sr0) : Int × Int := match l[30]? with
  | some s => (s.at_.line, s.at_.col)
  | none => (0, 0)
theorem rat_e (hx : T0 ext) (l : List Sr0) (hl : l.length ≤ 1000000) : G ext 52 [.d (.sl (l.map Sr0.row))] [] = some (.ret (.agg [.d (.int .i64 (pos30 l).1), .d (.int .i64 (pos30 l).2)]), []) := by
  have hll : (l.map Sr0.row).length = l.length := List.length_map _
  unfold pos30
  rw [G_body hx.clear rfl Try.func52 rfl Try.results52 hv_52 rfl]
  by_cases h : 30 < l.length
  · have h' : (30 : Int) < (l.length : Int) := by omega
    have hx1 : l[30]? = some l[30] := List.getElem?_eq_getElem h
    have hr1 : (l.map Sr0.row)[30]? = some (Sr0.row l[30]) := by rw [List.getElem?_map, hx1]; rfl
    rw [hx1]
    simp only [Sr0.row] at hr1
    simp (maxSteps := 4000000) (disch := first | (intros; contradiction) | omega) only [go_sem, hll, h', hr1]
    done
  · have h' : ¬ (30 : Int) < (l.length : Int) := by omega
    rw [List.getElem?_eq_none (by omega)]
    simp (maxSteps := 4000000) (disch := first | (intros; contradiction) | omega) only [go_sem, hll, h']
    done
/-- What a walk that only asks leaves. -/
def RelU (c : Ck) (x : Except Dg Unit) (c' : Ck) : Prop := (x = .ok () ∧ c' = c) ∨ ∃ d, x = .error d ∧ c' = c.setD d ∧ d.what ≠ 0
set_option maxHeartbeats 8000000 in
theorem cstructs_e (hx : T0 ext) {c : Ck} (hc : OkC c) (hb : c.bad = false) : ∃ c', G ext 27 [.ptr 0 0] [ckO c] = some (.ret (.tuple []), [ckO c']) ∧ RelU c (structsP c.p) c' := by
  have hls := hc.p.structs
  have hll : (c.p.structs.map Sr0.row).length = c.p.structs.length := List.length_map _
  have hat := rat_e hx c.p.structs hls
  have ha0 := cask_e hx c (decide ((c.p.structs.length : Int) ≤ 30)) 2 (pos30 c.p.structs).1 (pos30 c.p.structs).2
  have hl0 := Like.ask c (decide ((c.p.structs.length : Int) ≤ 30)) 2 ((pos30 c.p.structs).1, (pos30 c.p.structs).2)
  have hr0 : RelU c (limS c.p.structs) (c.ask (decide ((c.p.structs.length : Int) ≤ 30)) 2 ((pos30 c.p.structs).1, (pos30 c.p.structs).2)) := by
    unfold limS pos30
    by_cases h : 30 < c.p.structs.length
    · rw [List.getElem?_eq_getElem h, decide_eq_false (by omega), ask_false hb]
      exact .inr ⟨_, rfl, rfl, show (2 : Int) ≠ 0 by decide⟩
    · rw [List.getElem?_eq_none (by omega), decide_eq_true (by omega), ask_true]
      exact .inl ⟨rfl, rfl⟩
  generalize c.ask (decide ((c.p.structs.length : Int) ≤ 30)) 2 ((pos30 c.p.structs).1, (pos30 c.p.structs).2) = c0 at ha0 hl0 hr0
  rw [G_body hx.clear rfl Try.func27 rfl Try.results27 hv_27 rfl]
  simp (maxSteps := 4000000) (disch := first | (intros; contradiction) | omega) only [go_sem, hll, hat, ha0]
  generalize hL : loopA _ _ _ = L
  have hB0 : (c0 = c ∧ structsP c.p = structsK c.p [] c.p.structs) ∨ ∃ d, structsP c.p = .error d ∧ c0 = c.setD d ∧ d.what ≠ 0 := by
    unfold structsP
    rcases hr0 with ⟨r1, r2⟩ | ⟨d, r1, r2, r3⟩
    · exact .inl ⟨r2, by rw [r1, andT_ok]⟩
    · exact .inr ⟨d, by rw [r1, andT_err], r2, r3⟩
  generalize structsP c.p = B at hB0 ⊢
  have hlk0 : Like c c0 := hl0
  clear hr0 ha0 hl0 hat
  apply loop_upd hL (by simp (maxSteps := 4000000) (disch := first | (intros; contradiction) | omega) only [go_sem] <;> rfl) (fun x : Nat × Ck => x.1 ≤ c.p.structs.length ∧ Like c x.2 ∧ ((x.2 = c ∧ B = structsK c.p (c.p.structs.take x.1) (c.p.structs.drop x.1)) ∨ ∃ d, B = .error d ∧ x.2 = c.setD d ∧ d.what ≠ 0)) (fun x => c.p.structs.length - x.1) (fun x => [(3, .d (.int .i64 x.1)), (4, .any), (5, .any), (6, .any)]) (fun x => [(0, ckO x.2)]) (0, c0) (by simp (maxSteps := 4000000) (disch := first | (intros; contradiction) | omega) only [go_sem] <;> rfl) ⟨Nat.zero_le _, hlk0, by simpa using hB0⟩ ?_
  clear hL
  rintro ⟨i, c1⟩ ⟨h1, h2, h3⟩ next ih
  simp only at h1 h2 h3 ih ⊢
  have hb1 := cbad_e hx c1
  have hi0 : (0 : Int) ≤ (i : Int) := by omega
  rcases h3 with ⟨rfl, h3⟩ | ⟨d, d1, d2, d3⟩
  · rw [hb] at hb1
    by_cases hil : i < c1.p.structs.length
    · have hlt : (i : Int) < (c1.p.structs.length : Int) := by omega
      have hx1 : c1.p.structs[i]? = some c1.p.structs[i] := List.getElem?_eq_getElem hil
      have hxm := List.mem_of_getElem? hx1
      have hr1 : (c1.p.structs.map Sr0.row)[i]? = some (Sr0.row c1.p.structs[i]) := by rw [List.getElem?_map, hx1]; rfl
      have hd1 : c1.p.structs.drop i = c1.p.structs[i] :: c1.p.structs.drop (i + 1) := List.drop_eq_getElem_cons hil
      have hts := take_snoc hx1
      rw [hd1] at h3
      generalize c1.p.structs[i] = s at hx1 hxm hr1 h3 hts
      simp only [structsK] at h3
      simp only [Sr0.row] at hr1
      have hst := rstruct_e hx c1.p s.name hls
      unfold Pr0.av at hst
      have hfi := idxN_first hx1 (nmS_self s)
      have ha1 := cask_e hx c1 (!(c1.p.structs.take i).any (nmS s.name)) 6 s.at_.line s.at_.col
      have hl1 := Like.ask c1 (!(c1.p.structs.take i).any (nmS s.name)) 6 (s.at_.line, s.at_.col)
      have hcs := ask_cases hb (!(c1.p.structs.take i).any (nmS s.name)) (show (6 : Int) ≠ 0 by decide) s.at_
      generalize c1.ask (!(c1.p.structs.take i).any (nmS s.name)) 6 (s.at_.line, s.at_.col) = c2 at ha1 hl1 hcs
      have hfll : (s.fields.map Fl0.row).length = s.fields.length := List.length_map _
      have hfs := hc.p.fields s hxm
      simp (maxSteps := 4000000) (disch := first | (intros; contradiction) | omega) only [go_sem, hll, hlt, hb1, hi0, hr1, hst, hfi, ha1]
      generalize hL : loopA _ _ _ = L
      have hC0 : (c2 = c1 ∧ B = andT (fieldsP c1.p [] s.fields) fun _ => structsK c1.p (c1.p.structs.take (i + 1)) (c1.p.structs.drop (i + 1))) ∨ ∃ d, B = .error d ∧ c2 = c1.setD d ∧ d.what ≠ 0 := by
        rcases hcs with ⟨v1, v2⟩ | ⟨v1, v2, v3⟩
        · rw [v1, must_t] at h3
          exact .inl ⟨v2, by rw [hts]; exact h3⟩
        · rw [v1, must_f] at h3
          exact .inr ⟨_, h3, v2, show (6 : Int) ≠ 0 by decide⟩
      have hlk2 : Like c1 c2 := hl1
      have hwi : IntKind.wrap .i64 ((i : Int) + 1) = ((i + 1 : Nat) : Int) := by rw [wrap64 (by omega) (by omega)]; omega
      clear hcs ha1 hl1 h3 hst hfi
      apply loop_upd hL (by simp (maxSteps := 4000000) (disch := first | (intros; contradiction) | omega) only [go_sem] <;> rfl) (fun y : Nat × Ck => y.1 ≤ s.fields.length ∧ Like c1 y.2 ∧ ((y.2 = c1 ∧ B = andT (fieldsP c1.p (s.fields.take y.1) (s.fields.drop y.1)) fun _ => structsK c1.p (c1.p.structs.take (i + 1)) (c1.p.structs.drop (i + 1))) ∨ ∃ d, B = .error d ∧ y.2 = c1.setD d ∧ d.what ≠ 0)) (fun y => s.fields.length - y.1) (fun y => [(4, .d (.int .i64 y.1)), (5, .any), (6, .any)]) (fun y => [(0, ckO y.2)]) (0, c2) (by simp (maxSteps := 4000000) (disch := first | (intros; contradiction) | omega) only [go_sem] <;> rfl) ⟨Nat.zero_le _, hlk2, by simpa using hC0⟩ ?_
      clear hL
      rintro ⟨k, c3⟩ ⟨m1, m2, m3⟩ next2 ih2
      simp only at m1 m2 m3 ih2 ⊢
      have hk0 : (0 : Int) ≤ (k : Int) := by omega
      by_cases hkl : k < s.fields.length
      · have hltk : (k : Int) < (s.fields.length : Int) := by omega
        have hy1 : s.fields[k]? = some s.fields[k] := List.getElem?_eq_getElem hkl
        have hr2 : (s.fields.map Fl0.row)[k]? = some (Fl0.row s.fields[k]) := by rw [List.getElem?_map, hy1]; rfl
        have hd2 : s.fields.drop k = s.fields[k] :: s.fields.drop (k + 1) := List.drop_eq_getElem_cons hkl
        have hts2 := take_snoc hy1
        rw [hd2] at m3
        generalize s.fields[k] = f at hy1 hr2 m3 hts2
        simp only [fieldsP] at m3
        simp only [Fl0.row] at hr2
        have hwk : IntKind.wrap .i64 ((k : Int) + 1) = ((k + 1 : Nat) : Int) := by rw [wrap64 (by omega) (by omega)]; omega
        simp (maxSteps := 4000000) (disch := first | (intros; contradiction) | omega) only [go_sem, hll, hlt, hi0, hr1, hfll, hltk, hk0, hr2]
        generalize hL : loopA _ _ _ = L
        apply loop_upd hL (by simp (maxSteps := 4000000) (disch := first | (intros; contradiction) | omega) only [go_sem] <;> rfl) (fun z : Nat × Ck => z.1 ≤ k ∧ z.2 = c3.ask (!(s.fields.take z.1).any (nmL f.name)) 6 (f.at_.line, f.at_.col)) (fun z => k - z.1) (fun z => [(6, .d (.int .i64 z.1))]) (fun z => [(0, ckO z.2)]) (0, c3) (by simp (maxSteps := 4000000) (disch := first | (intros; contradiction) | omega) only [go_sem] <;> rfl) ⟨Nat.zero_le _, by simp [ask_true]⟩ ?_
        clear hL
        rintro ⟨j, c4⟩ ⟨n1, n2⟩ next3 ih3
        simp only at n1 n2 ih3 ⊢
        have hj0 : (0 : Int) ≤ (j : Int) := by omega
        by_cases hjk : j < k
        · have hltj : (j : Int) < (k : Int) := by omega
          have hltj2 : (j : Int) < (s.fields.length : Int) := by omega
          have hz1 : s.fields[j]? = some (s.fields[j]'(by omega)) := List.getElem?_eq_getElem (by omega)
          have hr3 : (s.fields.map Fl0.row)[j]? = some (Fl0.row (s.fields[j]'(by omega))) := by rw [List.getElem?_map, hz1]; rfl
          have hts3 := take_snoc hz1
          generalize s.fields[j]'(by omega) = q at hz1 hr3 hts3
          simp only [Fl0.row] at hr3
          have hwj : IntKind.wrap .i64 ((j : Int) + 1) = ((j + 1 : Nat) : Int) := by rw [wrap64 (by omega) (by omega)]; omega
          by_cases hn : q.name = f.name
          · have ha := cask_e hx c4 false 6 f.at_.line f.at_.col
            have hn' := eq_true hn
            have hnw : c4.ask false 6 (f.at_.line, f.at_.col) = c3.ask (!(s.fields.take (j + 1)).any (nmL f.name)) 6 (f.at_.line, f.at_.col) := by
              rw [n2, ask_and _ _ _ (show (6 : Int) ≠ 0 by decide), hts3, any_snoc]
              have : nmL f.name q = true := decide_eq_true hn
              rw [this]; simp
            generalize c4.ask false 6 (f.at_.line, f.at_.col) = c5 at ha hnw
            simp (maxSteps := 4000000) (disch := first | (intros; contradiction) | omega) only [go_sem, hll, hlt, hi0, hr1, hfll, hltj, hltj2, hj0, hr3, hn', ha, hwj]
            exact ih3 (j + 1, c5) _ ⟨by omega, hnw⟩ (by omega) (by simp (maxSteps := 4000000) (disch := first | (intros; contradiction) | omega) only [go_sem] <;> rfl)
          · have ha := cask_e hx c4 true 6 f.at_.line f.at_.col
            have hnw : c4.ask true 6 (f.at_.line, f.at_.col) = c3.ask (!(s.fields.take (j + 1)).any (nmL f.name)) 6 (f.at_.line, f.at_.col) := by
              rw [n2, ask_and _ _ _ (show (6 : Int) ≠ 0 by decide), hts3, any_snoc]
              have : nmL f.name q = false := decide_eq_false hn
              rw [this]; simp
            generalize c4.ask true 6 (f.at_.line, f.at_.col) = c5 at ha hnw
            simp (maxSteps := 4000000) (disch := first | (intros; contradiction) | omega) only [go_sem, hll, hlt, hi0, hr1, hfll, hltj, hltj2, hj0, hr3, hn, ha, hwj]
            exact ih3 (j + 1, c5) _ ⟨by omega, hnw⟩ (by omega) (by simp (maxSteps := 4000000) (disch := first | (intros; contradiction) | omega) only [go_sem] <;> rfl)
        · have hltj : ¬ (j : Int) < (k : Int) := by omega
          have hje : j = k := by omega
          subst hje
          have hlk4 : Like c1 c4 := by rw [n2]; exact m2.trans (Like.ask _ _ _ _)
          have hkn := cknown_e hx c4 f.t (by rw [hlk4.p]; exact hls)
          rw [hlk4.p] at hkn
          have ha := cask_e hx c4 (knownP c1.p f.t) 5 f.at_.line f.at_.col
          have hlk5 := hlk4.trans (Like.ask c4 (knownP c1.p f.t) 5 (f.at_.line, f.at_.col))
          have hnew : (c4.ask (knownP c1.p f.t) 5 (f.at_.line, f.at_.col) = c1 ∧ B = andT (fieldsP c1.p (s.fields.take (j + 1)) (s.fields.drop (j + 1))) fun _ => structsK c1.p (c1.p.structs.take (i + 1)) (c1.p.structs.drop (i + 1))) ∨ ∃ d, B = .error d ∧ c4.ask (knownP c1.p f.t) 5 (f.at_.line, f.at_.col) = c1.setD d ∧ d.what ≠ 0 := by
            rcases m3 with ⟨rfl, m3⟩ | ⟨d, e1, e2, e3⟩
            · rcases ask_cases hb (!(s.fields.take j).any (nmL f.name)) (show (6 : Int) ≠ 0 by decide) f.at_ with ⟨v1, v2⟩ | ⟨v1, v2, v3⟩
              · rw [v2] at n2
                rw [v1, must_t] at m3
                subst n2
                rcases ask_cases hb (knownP c4.p f.t) (show (5 : Int) ≠ 0 by decide) f.at_ with ⟨w1, w2⟩ | ⟨w1, w2, w3⟩
                · rw [w1, must_t] at m3
                  exact .inl ⟨w2, by rw [hts2]; exact m3⟩
                · rw [w1, must_f, andT_err] at m3
                  exact .inr ⟨_, m3, w2, show (5 : Int) ≠ 0 by decide⟩
              · rw [v1, must_f, andT_err] at m3
                have hbd : c4.bad = true := by rw [n2]; exact v3
                exact .inr ⟨_, m3, by rw [ask_bad hbd, n2, v2], show (6 : Int) ≠ 0 by decide⟩
            · have hb3 : c3.bad = true := by rw [e2]; exact setD_bad _ e3
              rw [ask_bad hb3] at n2
              subst n2
              exact .inr ⟨d, e1, by rw [ask_bad hb3]; exact e2, e3⟩
          generalize c4.ask (knownP c1.p f.t) 5 (f.at_.line, f.at_.col) = c5 at ha hlk5 hnew
          clear m3 n2
          simp (maxSteps := 4000000) (disch := first | (intros; contradiction) | omega) only [go_sem, hltj, hkn, ha, hwk]
          exact ih2 (j + 1, c5) _ ⟨by omega, hlk5, hnew⟩ (by omega) (by simp (maxSteps := 4000000) (disch := first | (intros; contradiction) | omega) only [go_sem] <;> rfl)
      · have hltk : ¬ (k : Int) < (s.fields.length : Int) := by omega
        rw [List.drop_eq_nil_of_le (by omega)] at m3
        simp only [fieldsP, andT_ok] at m3
        simp (maxSteps := 4000000) (disch := first | (intros; contradiction) | omega) only [go_sem, hll, hlt, hi0, hr1, hfll, hltk, hwi]
        exact ih (i + 1, c3) _ ⟨by omega, m2, m3⟩ (by omega) (by simp (maxSteps := 4000000) (disch := first | (intros; contradiction) | omega) only [go_sem] <;> rfl)
    · have hlt : ¬ (i : Int) < (c1.p.structs.length : Int) := by omega
      rw [List.drop_eq_nil_of_le (by omega)] at h3
      simp only [structsK] at h3
      refine ⟨c1, ?_, .inl ⟨h3, rfl⟩⟩
      simp (maxSteps := 4000000) (disch := first | (intros; contradiction) | omega) only [go_sem, hll, hlt]
      done
  · have hb' : c1.bad = true := by rw [d2]; exact setD_bad c d3
    rw [hb'] at hb1
    refine ⟨c1, ?_, .inr ⟨d, d1, d2, d3⟩⟩
    by_cases hil : (i : Int) < (c.p.structs.length : Int)
    · simp (maxSteps := 4000000) (disch := first | (intros; contradiction) | omega) only [go_sem, hll, hil, hb1]
      done
    · simp (maxSteps := 4000000) (disch := first | (intros; contradiction) | omega) only [go_sem, hll, hil, hb1]
      done
end Go.Proofs.Ythfollapianblaa
