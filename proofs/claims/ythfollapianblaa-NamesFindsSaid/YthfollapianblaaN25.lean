/- The document's checker: functions. Conditions: none. -/
import Derived.Test.YthfollapianblaaND
set_option linter.unusedSimpArgs false
set_option linter.unusedVariables false
namespace Go.Proofs.Ythfollapianblaa
open Go Go.Ab
variable {ext : Sem'}
def exL (c : Ck) (s : AV) : List AV := [.d (.sl (c.p.structs.map Sr0.row)), .d (.sl (c.p.funcs.map Fn0.row)), fnC c.fo 0, fnC c.fo 1, fnC c.fo 2, fnC c.fo 3, fnC c.fo 4, fnC c.fo 5, fnC c.fo 6, s, .d (.int .i64 c.d.stage), .d (.int .i64 c.d.what), .d (.int .i64 c.d.pos.1), .d (.int .i64 c.d.pos.2), .d (.int .i64 c.inn)]
theorem adObj_ckG (H : List AObj) (r o s q e : Nat) (c : Ck) : adObj H r o s (ckG q e c) = adCell H r o s [.d (.sl (c.p.structs.map Sr0.row)), .d (.sl (c.p.funcs.map Fn0.row)), fnC c.fo 0, fnC c.fo 1, fnC c.fo 2, fnC c.fo 3, fnC c.fo 4, fnC c.fo 5, fnC c.fo 6, .grow q e (c.seen.map Fl0.row), .d (.int .i64 c.d.stage), .d (.int .i64 c.d.what), .d (.int .i64 c.d.pos.1), .d (.int .i64 c.d.pos.2), .d (.int .i64 c.inn)] ([.d (.sl (c.p.structs.map Sr0.row)), .d (.sl (c.p.funcs.map Fn0.row)), fnC c.fo 0, fnC c.fo 1, fnC c.fo 2, fnC c.fo 3, fnC c.fo 4, fnC c.fo 5, fnC c.fo 6, .grow q e (c.seen.map Fl0.row), .d (.int .i64 c.d.stage), .d (.int .i64 c.d.what), .d (.int .i64 c.d.pos.1), .d (.int .i64 c.d.pos.2), .d (.int .i64 c.inn)][o]?) := rfl
theorem ckO_fold (c : Ck) : AObj.cells [.d (.sl (c.p.structs.map Sr0.row)), .d (.sl (c.p.funcs.map Fn0.row)), fnC c.fo 0, fnC c.fo 1, fnC c.fo 2, fnC c.fo 3, fnC c.fo 4, fnC c.fo 5, fnC c.fo 6, .d (.sl (c.seen.map Fl0.row)), .d (.int .i64 c.d.stage), .d (.int .i64 c.d.what), .d (.int .i64 c.d.pos.1), .d (.int .i64 c.d.pos.2), .d (.int .i64 c.inn)] = ckO c := rfl
theorem ckG_more (r e : Nat) (c : Ck) (x : Fl0) : AObj.cells [.d (.sl (c.p.structs.map Sr0.row)), .d (.sl (c.p.funcs.map Fn0.row)), fnC c.fo 0, fnC c.fo 1, fnC c.fo 2, fnC c.fo 3, fnC c.fo 4, fnC c.fo 5, fnC c.fo 6, .grow r e (c.seen.map Fl0.row ++ [[.str x.name, .bool x.t.ptr, .str x.t.to, .int .i64 x.at_.line, .int .i64 x.at_.col]]), .d (.int .i64 c.d.stage), .d (.int .i64 c.d.what), .d (.int .i64 c.d.pos.1), .d (.int .i64 c.d.pos.2), .d (.int .i64 c.inn)] = ckG r e (c.setS (c.seen ++ [x])) := by
  have : (c.seen ++ [x]).map Fl0.row = c.seen.map Fl0.row ++ [[.str x.name, .bool x.t.ptr, .str x.t.to, .int .i64 x.at_.line, .int .i64 x.at_.col]] := by rw [List.map_append]; rfl
  unfold ckG ckL Ck.setS
  simp only
  rw [this]
attribute [go_sem] adObj_ckG
theorem Ck.ext' {a b : Ck} (h1 : a.p = b.p) (h2 : a.fo = b.fo) (h3 : a.seen = b.seen) (h4 : a.d = b.d) (h5 : a.inn = b.inn) : a = b := by
  cases a; cases b; simp only at h1 h2 h3 h4 h5; subst h1 h2 h3 h4 h5; rfl
def Ck.setF (c : Ck) (f : Fn0) : Ck := ⟨c.p, some f, c.seen, c.d, c.inn⟩
set_option maxHeartbeats 8000000 in
theorem cfunction_e (hx : T0 ext) {c : Ck} {f : Fn0} (hc : OkC c) (hb : c.bad = false) (hi : c.inn = 0) (hpar : sizL f.body + f.params.length ≤ 1000000) (hok : okSs f.body) :
    ∃ c', G ext 30 [.ptr 0 0, .agg [.d (.str f.name), .d (.sl (f.params.map Fl0.row)), .d (.bool f.ret.ptr), .d (.str f.ret.to), .d (.sl (f.body.map St0.row)), .d (.int .i64 f.at_.line), .d (.int .i64 f.at_.col)]] [ckO c] = some (.ret (.tuple []), [ckO c']) ∧ OkC c' ∧ c'.p = c.p ∧ c'.inn = 0 ∧
      (functionP c.p f = .ok () → c'.d = c.d) ∧ ∀ d, functionP c.p f = .error d → c'.d = d ∧ d.what ≠ 0 := by
  have hpl : (f.params.map Fl0.row).length = f.params.length := List.length_map _
  rw [G_body hx.clear rfl Try.func30 rfl Try.results30 hv_30 rfl]
  simp (maxSteps := 4000000) (disch := first | (intros; contradiction) | omega) only [go_sem]
  generalize hL : loopA _ _ _ = L
  generalize hA : paramsP c.p [] f.params = A
  apply loop_upd hL (by simp (maxSteps := 4000000) (disch := first | (intros; contradiction) | omega) only [go_sem] <;> rfl) (fun x : Nat × Dg => x.1 ≤ f.params.length ∧ ((x.2 = c.d ∧ A = paramsP c.p (f.params.take x.1) (f.params.drop x.1)) ∨ (A = .error x.2 ∧ x.2.what ≠ 0))) (fun x => f.params.length - x.1) (fun x => [(4, .d (.int .i64 x.1)), (6, .any)]) (fun x => [(0, ckG 2 x.1 ⟨c.p, some f, f.params.take x.1, x.2, c.inn⟩), (2, .grow x.1 5)]) (0, c.d) (by simp (maxSteps := 4000000) (disch := first | (intros; contradiction) | omega) only [go_sem] <;> rfl) ⟨Nat.zero_le _, .inl ⟨rfl, by simpa using hA.symm⟩⟩ ?_
  clear hL
  rintro ⟨k, d0⟩ ⟨h1, h2⟩ next ih
  simp only at h1 h2 ih ⊢
  have hk0 : (0 : Int) ≤ (k : Int) := by omega
  generalize hcc : (⟨c.p, some f, f.params.take k, d0, c.inn⟩ : Ck) = cc at ih ⊢
  have hccp : cc.p = c.p := by rw [← hcc]
  have hccf : cc.fo = some f := by rw [← hcc]
  have hccs : cc.seen = f.params.take k := by rw [← hcc]
  have hccd : cc.d = d0 := by rw [← hcc]
  have hcci : cc.inn = c.inn := by rw [← hcc]
  have hokcc : OkC cc := ⟨by rw [hccp]; exact hc.p, by rw [hccs, List.length_take]; omega⟩
  by_cases hkl : k < f.params.length
  · have hlt : (k : Int) < (f.params.length : Int) := by omega
    have hx1 : f.params[k]? = some f.params[k] := List.getElem?_eq_getElem hkl
    have hr1 : (f.params.map Fl0.row)[k]? = some (Fl0.row f.params[k]) := by rw [List.getElem?_map, hx1]; rfl
    have hd1 : f.params.drop k = f.params[k] :: f.params.drop (k + 1) := List.drop_eq_getElem_cons hkl
    have hts := take_snoc hx1
    rw [hd1] at h2
    generalize f.params[k] = x at hx1 hr1 h2 hts
    simp only [paramsP] at h2
    simp only [Fl0.row] at hr1
    have hkn := cknownG_e hx cc k x.t hokcc.p.structs
    rw [hccp] at hkn
    have ha1 := caskG_e hx cc k (knownP c.p x.t) 5 x.at_.line x.at_.col
    have hl1 := Like.ask cc (knownP c.p x.t) 5 (x.at_.line, x.at_.col)
    generalize hc1 : cc.ask (knownP c.p x.t) 5 (x.at_.line, x.at_.col) = c1 at ha1 hl1
    have hlk := clookG_e hx c1 k x.name (by rw [hl1.seen]; exact hokcc.seen)
    rw [hl1.seen, hccs] at hlk
    have ha2 := caskG_e hx c1 k (lookP (f.params.take k) x.name).isNone 6 x.at_.line x.at_.col
    have hl2 := hl1.trans (Like.ask c1 (lookP (f.params.take k) x.name).isNone 6 (x.at_.line, x.at_.col))
    generalize hc2 : c1.ask (lookP (f.params.take k) x.name).isNone 6 (x.at_.line, x.at_.col) = c2 at ha2 hl2
    have hm := ckG_more 2 (k + 1) c2 x
    have hnx : c2.setS (c2.seen ++ [x]) = ⟨c.p, some f, f.params.take (k + 1), c2.d, c.inn⟩ := Ck.ext' (hl2.p.trans hccp) (hl2.fo.trans hccf) (by show c2.seen ++ [x] = _; rw [hl2.seen, hccs, hts]) rfl (hl2.inn.trans hcci)
    rw [hnx] at hm
    have hnew : (c2.d = c.d ∧ A = paramsP c.p (f.params.take (k + 1)) (f.params.drop (k + 1))) ∨ (A = .error c2.d ∧ c2.d.what ≠ 0) := by
      rcases h2 with ⟨rfl, h3⟩ | ⟨h3, h4⟩
      · have hbc : cc.bad = false := by unfold Ck.bad; rw [hccd]; exact hb
        rcases ask_cases hbc (knownP c.p x.t) (show (5 : Int) ≠ 0 by decide) x.at_ with ⟨v1, v2⟩ | ⟨v1, v2, v3⟩
        · rw [v2] at hc1
          subst hc1
          rw [v1, must_t] at h3
          rcases ask_cases hbc (lookP (f.params.take k) x.name).isNone (show (6 : Int) ≠ 0 by decide) x.at_ with ⟨w1, w2⟩ | ⟨w1, w2, w3⟩
          · rw [w2] at hc2
            subst hc2
            rw [w1, must_t] at h3
            exact .inl ⟨hccd, by rw [hts]; exact h3⟩
          · rw [w2] at hc2
            subst hc2
            rw [w1, must_f] at h3
            exact .inr ⟨h3, show (6 : Int) ≠ 0 by decide⟩
        · rw [hc1] at v3
          rw [v2] at hc1
          rw [ask_bad v3] at hc2
          subst hc2
          subst hc1
          rw [v1, must_f] at h3
          exact .inr ⟨h3, show (5 : Int) ≠ 0 by decide⟩
      · have hbc : cc.bad = true := by unfold Ck.bad; rw [hccd]; simpa using h4
        rw [ask_bad hbc] at hc1
        subst hc1
        rw [ask_bad hbc] at hc2
        subst hc2
        rw [hccd]
        exact .inr ⟨h3, h4⟩
    have hwk : IntKind.wrap .i64 ((k : Int) + 1) = ((k + 1 : Nat) : Int) := by rw [wrap64 (by omega) (by omega)]; omega
    have hcl : c2.seen.length = k := by rw [hl2.seen, hccs, List.length_take]; omega
    have hroom : ∀ b : Nat, b ≤ 1000 → room (k + 1) b := fun b hb => room_few (by omega) hb
    have hsl : (c2.seen.map Fl0.row).length = k := by rw [List.length_map]; exact hcl
    clear h2 hc1 hc2 hcc
    cases hlv : lookP (f.params.take k) x.name with
    | none =>
      rw [hlv] at hlk ha2
      unfold lookAV at hlk
      simp only [Option.isNone_none] at ha2
      simp (maxSteps := 4000000) (disch := first | (intros; contradiction) | omega) only [go_sem, hpl, hlt, hk0, hr1, hkn, ha1, hlk, ha2, hsl, hroom, hm, hwk]
      exact ih (k + 1, c2.d) _ ⟨by omega, hnew⟩ (by omega) (by simp (maxSteps := 4000000) (disch := first | (intros; contradiction) | omega) only [go_sem] <;> rfl)
    | some tt =>
      rw [hlv] at hlk ha2
      unfold lookAV at hlk
      simp only [Option.isNone_some] at ha2
      simp (maxSteps := 4000000) (disch := first | (intros; contradiction) | omega) only [go_sem, hpl, hlt, hk0, hr1, hkn, ha1, hlk, ha2, hsl, hroom, hm, hwk]
      exact ih (k + 1, c2.d) _ ⟨by omega, hnew⟩ (by omega) (by simp (maxSteps := 4000000) (disch := first | (intros; contradiction) | omega) only [go_sem] <;> rfl)
  · have hlt : ¬ (k : Int) < (f.params.length : Int) := by omega
    have hke : k = f.params.length := by omega
    rw [List.drop_eq_nil_of_le (by omega)] at h2
    simp only [paramsP] at h2
    have htk : f.params.take k = f.params := List.take_of_length_le (by omega)
    have hkn := cknownG_e hx cc k f.ret hokcc.p.structs
    rw [hccp] at hkn
    have ha1 := caskG_e hx cc k (knownP c.p f.ret) 5 f.at_.line f.at_.col
    have hl1 := Like.ask cc (knownP c.p f.ret) 5 (f.at_.line, f.at_.col)
    generalize hc1 : cc.ask (knownP c.p f.ret) 5 (f.at_.line, f.at_.col) = c1 at ha1 hl1
    have hfo := ckO_fold c1
    have hq : OkQ c1 f (sizL f.body) := ⟨⟨by rw [hl1.p]; exact hokcc.p, by rw [hl1.seen]; exact hokcc.seen⟩, by rw [hl1.inn, hcci, hi]; omega, by rw [hl1.inn, hcci, hi]; omega, by rw [hl1.seen, hccs, htk]; omega, by rw [hl1.fo, hccf]⟩
    obtain ⟨c2, g1, g2⟩ := cblocks_e hx (sizL f.body) f.body (Nat.le_refl _) hok c1 hq
    have hl2 := g2.like
    have hen := rends_e hx 1000000 f.body (by have := cntL_siz f.body; omega) (Nat.le_refl _)
    have ha3 := cask_e hx c2 (endsP f.body) 8 f.at_.line f.at_.col
    have hl3 := (hl1.trans hl2).trans (Like.ask c2 (endsP f.body) 8 (f.at_.line, f.at_.col))
    have hfin : (functionP c.p f = .ok () → (c2.ask (endsP f.body) 8 (f.at_.line, f.at_.col)).d = c.d) ∧ ∀ d, functionP c.p f = .error d → (c2.ask (endsP f.body) 8 (f.at_.line, f.at_.col)).d = d ∧ d.what ≠ 0 := by
      unfold functionP
      rw [hA]
      rcases h2 with ⟨rfl, h3⟩ | ⟨h3, h4⟩
      · have hbc : cc.bad = false := by unfold Ck.bad; rw [hccd]; exact hb
        rw [h3, andT_ok, htk]
        rcases ask_cases hbc (knownP c.p f.ret) (show (5 : Int) ≠ 0 by decide) f.at_ with ⟨v1, v2⟩ | ⟨v1, v2, v3⟩
        · rw [v2] at hc1
          subst hc1
          rw [v1, must_t]
          have hbl : blockP c.p f.ret 0 f.params false f.body = blockP cc.p f.ret cc.inn cc.seen false f.body := by rw [hccp, hcci, hi, hccs, htk]
          rw [hbl]
          rcases g2.good hbc with ⟨⟨env, s1⟩, s2⟩ | ⟨d, s1, s2, s3, s4⟩
          · subst s2
            rw [s1, andT_ok]
            rcases ask_cases hbc (endsP f.body) (show (8 : Int) ≠ 0 by decide) f.at_ with ⟨w1, w2⟩ | ⟨w1, w2, w3⟩
            · rw [w2, w1, must_t]
              exact ⟨fun _ => hccd, fun d hd => by cases hd⟩
            · rw [w2, w1, must_f]
              exact ⟨fun h => by (cases h), fun d hd => by (cases hd; exact ⟨rfl, show (8 : Int) ≠ 0 by decide⟩)⟩
          · rw [s1, andT_err, ask_bad s3, s2]
            exact ⟨fun h => by (cases h), fun d' hd => by (cases hd; exact ⟨rfl, s4⟩)⟩
        · rw [hc1] at v3
          rw [v2] at hc1
          rw [v1, must_f, g2.1 v3, ask_bad v3, ← hc1]
          exact ⟨fun h => by (cases h), fun d hd => by (cases hd; exact ⟨rfl, show (5 : Int) ≠ 0 by decide⟩)⟩
      · have hbc : cc.bad = true := by unfold Ck.bad; rw [hccd]; simpa using h4
        rw [ask_bad hbc] at hc1
        subst hc1
        rw [h3, andT_err, g2.1 hbc, ask_bad hbc, hccd]
        exact ⟨fun h => by (cases h), fun d hd => by (cases hd; exact ⟨rfl, h4⟩)⟩
    refine ⟨c2.ask (endsP f.body) 8 (f.at_.line, f.at_.col), ?_, ⟨by rw [hl3.p]; exact hokcc.p, by rw [hl3.seen]; exact hokcc.seen⟩, by rw [hl3.p, hccp], by rw [hl3.inn, hcci, hi], hfin⟩
    clear hfin h2 hc1 g2 hcc
    generalize c2.ask (endsP f.body) 8 (f.at_.line, f.at_.col) = c3 at ha3
    simp (maxSteps := 4000000) (disch := first | (intros; contradiction) | omega) only [go_sem, hpl, hlt, hkn, ha1, hfo, g1, hen, ha3]
    done
end Go.Proofs.Ythfollapianblaa
