/- The document's checker: statements; The document's checker: other statements; The document's checker: blocks, and what is plain; The document's checker: blocks. Conditions: none. -/
import Derived.Test.YthfollapianblaaN20
set_option linter.unusedSimpArgs false
set_option linter.unusedVariables false
namespace Go.Proofs.Ythfollapianblaa
open Go Go.Ab
variable {ext : Sem'}
def Ck.setS (c : Ck) (s : List Fl0) : Ck := ⟨c.p, c.fo, s, c.d, c.inn⟩
def Ck.setI (c : Ck) (i : Int) : Ck := ⟨c.p, c.fo, c.seen, c.d, i⟩
theorem ask_fo (c : Ck) (b : Bool) (f : Int) (q : Int × Int) : (c.ask b f q).fo = c.fo := by unfold Ck.ask; split <;> rfl
theorem ask_inn (c : Ck) (b : Bool) (f : Int) (q : Int × Int) : (c.ask b f q).inn = c.inn := by unfold Ck.ask; split <;> rfl
theorem setI_fold (c : Ck) (i : Int) : AObj.cells [.d (.sl (c.p.structs.map Sr0.row)), .d (.sl (c.p.funcs.map Fn0.row)), fnC c.fo 0, fnC c.fo 1, fnC c.fo 2, fnC c.fo 3, fnC c.fo 4, fnC c.fo 5, fnC c.fo 6, .d (.sl (c.seen.map Fl0.row)), .d (.int .i64 c.d.stage), .d (.int .i64 c.d.what), .d (.int .i64 c.d.pos.1), .d (.int .i64 c.d.pos.2), .d (.int .i64 i)] = ckO (c.setI i) := rfl
theorem setS_fold (c : Ck) (n : Str) (t : Tp) : AObj.cells [.d (.sl (c.p.structs.map Sr0.row)), .d (.sl (c.p.funcs.map Fn0.row)), fnC c.fo 0, fnC c.fo 1, fnC c.fo 2, fnC c.fo 3, fnC c.fo 4, fnC c.fo 5, fnC c.fo 6, .d (.sl (c.seen.map Fl0.row ++ [[.str n, .bool t.ptr, .str t.to, .int .i64 0, .int .i64 0]])), .d (.int .i64 c.d.stage), .d (.int .i64 c.d.what), .d (.int .i64 c.d.pos.1), .d (.int .i64 c.d.pos.2), .d (.int .i64 c.inn)] = ckO (c.setS (c.seen ++ [⟨n, t, ⟨0, 0⟩⟩])) := by
  rw [← fls_snoc]; rfl
theorem back_fold (c c1 : Ck) : AObj.cells [.d (.sl (c1.p.structs.map Sr0.row)), .d (.sl (c1.p.funcs.map Fn0.row)), fnC c1.fo 0, fnC c1.fo 1, fnC c1.fo 2, fnC c1.fo 3, fnC c1.fo 4, fnC c1.fo 5, fnC c1.fo 6, .d (.sl (c.seen.map Fl0.row)), .d (.int .i64 c1.d.stage), .d (.int .i64 c1.d.what), .d (.int .i64 c1.d.pos.1), .d (.int .i64 c1.d.pos.2), .d (.int .i64 c1.inn)] = ckO (c1.setS c.seen) := rfl
theorem fits_fl (l : List Fl0) : fits 5 (l.map Fl0.row) := by
  intro row hr
  obtain ⟨f, _, rfl⟩ := List.mem_map.1 hr
  rfl
/-- What a walk through statements asks. -/
structure OkQ (c : Ck) (f : Fn0) (m : Nat) : Prop where
  okc : OkC c
  lo : 0 ≤ c.inn
  hi : c.inn + m ≤ 1000000
  sn : c.seen.length + m ≤ 1000000
  fo : c.fo = some f
def RelS (c : Ck) (f : Fn0) (s : St0) (c' : Ck) : Prop := (c.bad = true → ∃ sn, c' = c.setS sn ∧ sn.length ≤ c.seen.length + 1) ∧ (c.bad = false → (∀ env, stmtP c.p f.ret c.inn c.seen s = .ok env → c' = c.setS env) ∧ ∀ d, stmtP c.p f.ret c.inn c.seen s = .error d → d.what ≠ 0 ∧ ∃ sn, c' = (c.setD d).setS sn ∧ sn.length ≤ c.seen.length + 1)
def StmtC (ext : Sem') (c : Ck) (f : Fn0) (s : St0) : Prop := ∃ c', G ext 68 [.ptr 0 0, s.agg] [ckO c] = some (.ret (.tuple []), [ckO c']) ∧ RelS c f s c'
def RelB (c : Ck) (f : Fn0) (l : List St0) (c' : Ck) : Prop := (c.bad = true → c' = c) ∧ (c.bad = false → (∀ env, blockP c.p f.ret c.inn c.seen false l = .ok env → c' = c) ∧ ∀ d, blockP c.p f.ret c.inn c.seen false l = .error d → d.what ≠ 0 ∧ c' = c.setD d)
def BlockC (ext : Sem') (c : Ck) (f : Fn0) (l : List St0) : Prop := ∃ c', G ext 55 [.ptr 0 0, .d (.sl (l.map St0.row))] [ckO c] = some (.ret (.tuple []), [ckO c']) ∧ RelB c f l c'
theorem setS_self (c : Ck) : c.setS c.seen = c := rfl
theorem relS_bad {c : Ck} {f : Fn0} {s : St0} (hb : c.bad = true) : RelS c f s c := ⟨fun _ => ⟨c.seen, rfl, by omega⟩, fun h => by rw [hb] at h; cases h⟩
theorem relS_ok {c : Ck} {f : Fn0} {s : St0} {env : List Fl0} (hb : c.bad = false) (h : stmtP c.p f.ret c.inn c.seen s = .ok env) : RelS c f s (c.setS env) :=
  ⟨fun hh => by (rw [hb] at hh; cases hh), fun _ => ⟨fun e he => by (rw [h] at he; cases he; rfl), fun d hd => by (rw [h] at hd; cases hd)⟩⟩
theorem relS_same {c : Ck} {f : Fn0} {s : St0} (hb : c.bad = false) (h : stmtP c.p f.ret c.inn c.seen s = .ok c.seen) : RelS c f s c := by
  have := relS_ok hb h
  rwa [setS_self] at this
theorem relS_err {c : Ck} {f : Fn0} {s : St0} {d : Dg} (hb : c.bad = false) (h : stmtP c.p f.ret c.inn c.seen s = .error d) (hd : d.what ≠ 0) {sn : List Fl0} (hs : sn.length ≤ c.seen.length + 1) : RelS c f s ((c.setD d).setS sn) :=
  ⟨fun hh => by (rw [hb] at hh; cases hh), fun _ => ⟨fun e he => by (rw [h] at he; cases he), fun d' hd' => by (rw [h] at hd'; cases hd'; exact ⟨hd, sn, rfl, hs⟩)⟩⟩
theorem relS_err' {c : Ck} {f : Fn0} {s : St0} {d : Dg} (hb : c.bad = false) (h : stmtP c.p f.ret c.inn c.seen s = .error d) (hd : d.what ≠ 0) : RelS c f s (c.setD d) := by
  have := relS_err hb h hd (sn := c.seen) (by omega)
  exact this
/-- Something that must be so, behind which something else comes. -/
theorem ask_cases {c : Ck} (hb : c.bad = false) (b : Bool) {f : Int} (hf : f ≠ 0) (p : Po) : (b = true ∧ c.ask b f (p.line, p.col) = c) ∨ (b = false ∧ c.ask b f (p.line, p.col) = c.setD ⟨4, f, (p.line, p.col)⟩ ∧ (c.ask b f (p.line, p.col)).bad = true) := by
  cases b with
  | true => exact .inl ⟨rfl, ask_true _ _ _⟩
  | false => exact .inr ⟨rfl, ask_false hb _ _, by rw [ask_false hb]; exact setD_bad c hf⟩
theorem must_t {β : Type} (f : Int) (p : Po) (k : Except Dg β) : mustP true f p k = k := rfl
theorem must_f {β : Type} (f : Int) (p : Po) (k : Except Dg β) : mustP false f p k = .error ⟨4, f, (p.line, p.col)⟩ := rfl
theorem andT_ok {α β : Type} (a : α) (k : α → Except Dg β) : andT (.ok a) k = k a := rfl
theorem andT_err {α β : Type} (d : Dg) (k : α → Except Dg β) : andT (.error d) k = .error d := rfl
theorem got_some {α β : Type} (x : α) (p : Po) (k : α → Except Dg β) : gotP (some x) p k = k x := rfl
theorem got_none {α β : Type} (p : Po) (k : α → Except Dg β) : gotP none p k = .error ⟨4, 5, (p.line, p.col)⟩ := rfl
set_option maxHeartbeats 4000000 in
theorem cstmt1_e (hx : T0 ext) {c : Ck} {f : Fn0} {t : Tp} {n : Str} {x : Ex0} {b l : List St0} {at_ : Po} (hq : OkQ c f (sizS (.mk 1 t n [x] b l at_))) (hox : okE x) (hb : c.bad = false) : StmtC ext c f (.mk 1 t n [x] b l at_) := by
  have hb1 := cbad_e hx c
  rw [hb] at hb1
  have hsz : 1 + cntE x ≤ sizS (.mk 1 t n [x] b l at_) := by simp only [sizS, cntEs]; omega
  have hsn := hq.sn
  have hi0 := hq.lo
  have hi1 := hq.hi
  have hkn := cknown_e hx c t hq.okc.p.structs
  have ha1 := cask_e hx c (knownP c.p t) 5 at_.line at_.col
  have ho1 := hq.okc.ask (knownP c.p t) 5 (at_.line, at_.col)
  have hc1 := ask_cases hb (knownP c.p t) (show (5 : Int) ≠ 0 by decide) at_
  generalize c.ask (knownP c.p t) 5 (at_.line, at_.col) = c1 at ha1 ho1 hc1
  obtain ⟨t1, c2, e1, e2⟩ := cexpr_e hx (cntE x) x (Nat.le_refl _) (by omega) hox c1 ho1
  have hfit := rfits_e hx t t1
  unfold Tp.av at hfit
  have ha2 := cask_e hx c2 (fitsP t t1) 7 x.pos.line x.pos.col
  have ho2 := e2.1.ask (fitsP t t1) 7 (x.pos.line, x.pos.col)
  generalize hc3 : c2.ask (fitsP t t1) 7 (x.pos.line, x.pos.col) = c3 at ha2 ho2
  have hlk := clook_e hx c3 n ho2.seen
  have ha3 := cask_e hx c3 (lookP c3.seen n).isNone 6 at_.line at_.col
  generalize hc4 : c3.ask (lookP c3.seen n).isNone 6 (at_.line, at_.col) = c4 at ha3
  have hs4 : c4.seen = c3.seen := by rw [← hc4]; exact ask_seen _ _ _ _
  have hfold := setS_fold c4 n t
  have hs41 : c4.seen.length ≤ 1000000 := by rw [hs4]; exact ho2.seen
  have hll : (c4.seen.map Fl0.row).length = c4.seen.length := List.length_map _
  refine ⟨c4.setS (c4.seen ++ [⟨n, t, ⟨0, 0⟩⟩]), ?_, ?_⟩
  · clear hc1 e2 hc3 hc4
    have hroom : ∀ k bb : Nat, k ≤ c4.seen.length + 1 → bb ≤ 1000 → room k bb := fun k bb hk hbb => room_few (by omega) hbb
    have hfits := fits_fl c4.seen
    unfold St0.agg
    unfold Ex0.agg at e1
    simp only [St0.kind, St0.t, St0.name, St0.e, St0.body, St0.els, St0.pos]
    rw [one_row]
    cases hlv : lookP c3.seen n with
    | none =>
      rw [hlv] at hlk ha3
      unfold lookAV at hlk
      simp only [Option.isNone_none] at ha3
      rw [G_body hx.clear rfl Try.func68 rfl Try.results68 hv_68 rfl]
      simp (maxSteps := 4000000) (disch := first | (intros; contradiction) | omega) only [go_sem, hb1, hkn, ha1, e1, hfit, ha2, hlk, ha3, hfold, hroom, hll, hfits]
      done
    | some tt =>
      rw [hlv] at hlk ha3
      unfold lookAV at hlk
      simp only [Option.isNone_some] at ha3
      rw [G_body hx.clear rfl Try.func68 rfl Try.results68 hv_68 rfl]
      simp (maxSteps := 4000000) (disch := first | (intros; contradiction) | omega) only [go_sem, hb1, hkn, ha1, e1, hfit, ha2, hlk, ha3, hfold, hroom, hll, hfits]
      done
  · have hP : stmtP c.p f.ret c.inn c.seen (.mk 1 t n [x] b l at_) = mustP (knownP c.p t) 5 at_ (fitK c.p c.seen t x (mustP (lookP c.seen n).isNone 6 at_ (.ok (c.seen ++ [⟨n, t, ⟨0, 0⟩⟩])))) := by
      simp only [stmtP]; unfold stmtK; simp only [if_true, oneK_one]
    unfold fitK at hP
    rcases hc1 with ⟨k1, rfl⟩ | ⟨k1, k2, k3⟩
    · rw [k1, must_t] at hP
      rcases e2.good hb with ⟨u, u1, u2, u3⟩ | ⟨d, u1, u2, u3, u4⟩
      · subst u2 u3
        rw [u1, andT_ok] at hP
        rcases ask_cases hb (fitsP t t1) (show (7 : Int) ≠ 0 by decide) x.pos with ⟨v1, v2⟩ | ⟨v1, v2, v3⟩
        · rw [v2] at hc3
          subst hc3
          rw [v1, must_t] at hP
          rcases ask_cases hb (lookP c2.seen n).isNone (show (6 : Int) ≠ 0 by decide) at_ with ⟨w1, w2⟩ | ⟨w1, w2, w3⟩
          · rw [w2] at hc4
            subst hc4
            rw [w1, must_t] at hP
            exact relS_ok hb hP
          · rw [w2] at hc4
            subst hc4
            rw [w1, must_f] at hP
            exact relS_err hb hP (show (6 : Int) ≠ 0 by decide) (by simp [Ck.setD])
        · rw [v2] at hc3
          subst hc3
          rw [ask_bad (by rw [← v2]; exact v3)] at hc4
          subst hc4
          rw [v1, must_f] at hP
          exact relS_err hb hP (show (7 : Int) ≠ 0 by decide) (by simp [Ck.setD])
      · rw [ask_bad u3] at hc3
        subst hc3
        rw [ask_bad u3] at hc4
        subst hc4
        rw [u1, andT_err] at hP
        rw [u2]
        exact relS_err hb hP u4 (by simp [Ck.setD])
    · have h2 := e2.bad k3
      subst h2
      rw [ask_bad k3] at hc3
      subst hc3
      rw [ask_bad k3] at hc4
      subst hc4
      rw [k1, must_f] at hP
      rw [k2]
      exact relS_err hb hP (show (5 : Int) ≠ 0 by decide) (by simp [Ck.setD])
end Go.Proofs.Ythfollapianblaa
namespace Go.Proofs.Ythfollapianblaa
open Go Go.Ab
variable {ext : Sem'}
theorem rel_fit {c c1 : Ck} {x : Ex0} {u t : Tp} (hb : c.bad = false) (h : RelE c (exprP c.p c.seen x) t c1) : ((∀ k : Except Dg (List Fl0), fitK c.p c.seen u x k = k) ∧ c1.ask (fitsP u t) 7 (x.pos.line, x.pos.col) = c) ∨ ∃ d, (∀ k : Except Dg (List Fl0), fitK c.p c.seen u x k = .error d) ∧ c1.ask (fitsP u t) 7 (x.pos.line, x.pos.col) = c.setD d ∧ (c1.ask (fitsP u t) 7 (x.pos.line, x.pos.col)).bad = true ∧ d.what ≠ 0 := by
  unfold fitK
  rcases h.good hb with ⟨v, u1, u2, u3⟩ | ⟨d, u1, u2, u3, u4⟩
  · subst u2 u3
    rw [u1]
    rcases ask_cases hb (fitsP u t) (show (7 : Int) ≠ 0 by decide) x.pos with ⟨v1, v2⟩ | ⟨v1, v2, v3⟩
    · exact .inl ⟨fun k => by rw [andT_ok, v1, must_t], v2⟩
    · exact .inr ⟨_, fun k => by rw [andT_ok, v1, must_f], v2, v3, show (7 : Int) ≠ 0 by decide⟩
  · exact .inr ⟨d, fun k => by rw [u1, andT_err], by rw [ask_bad u3]; exact u2, by rw [ask_bad u3]; exact u3, u4⟩
theorem rel_num {c c1 : Ck} {x : Ex0} {t : Tp} (hb : c.bad = false) (h : RelE c (exprP c.p c.seen x) t c1) : ((∀ k : Except Dg (List Fl0), numK c.p c.seen x k = k) ∧ c1.ask (!t.ptr) 7 (x.pos.line, x.pos.col) = c) ∨ ∃ d, (∀ k : Except Dg (List Fl0), numK c.p c.seen x k = .error d) ∧ c1.ask (!t.ptr) 7 (x.pos.line, x.pos.col) = c.setD d ∧ (c1.ask (!t.ptr) 7 (x.pos.line, x.pos.col)).bad = true ∧ d.what ≠ 0 := by
  unfold numK
  rcases h.good hb with ⟨v, u1, u2, u3⟩ | ⟨d, u1, u2, u3, u4⟩
  · subst u2 u3
    rw [u1]
    rcases ask_cases hb (!t.ptr) (show (7 : Int) ≠ 0 by decide) x.pos with ⟨v1, v2⟩ | ⟨v1, v2, v3⟩
    · exact .inl ⟨fun k => by rw [andT_ok, v1, must_t], v2⟩
    · exact .inr ⟨_, fun k => by rw [andT_ok, v1, must_f], v2, v3, show (7 : Int) ≠ 0 by decide⟩
  · exact .inr ⟨d, fun k => by rw [u1, andT_err], by rw [ask_bad u3]; exact u2, by rw [ask_bad u3]; exact u3, u4⟩
theorem fnC_ret {o : Option Fn0} {f : Fn0} (h : o = some f) : fnC o 2 = .d (.bool f.ret.ptr) ∧ fnC o 3 = .d (.str f.ret.to) := by subst h; exact ⟨rfl, rfl⟩
theorem rel_fo {c c1 : Ck} {x : Except Dg Tp} {t : Tp} (hb : c.bad = false) (h : RelE c x t c1) : c1.fo = c.fo ∧ c1.p = c.p ∧ c1.inn = c.inn ∧ c1.seen = c.seen := by
  rcases h.good hb with ⟨v, u1, u2, u3⟩ | ⟨d, u1, u2, u3, u4⟩
  · rw [u3]; exact ⟨rfl, rfl, rfl, rfl⟩
  · rw [u2]; exact ⟨rfl, rfl, rfl, rfl⟩
set_option maxHeartbeats 4000000 in
theorem cstmt2_e (hx : T0 ext) {c : Ck} {f : Fn0} {t : Tp} {n : Str} {x : Ex0} {b l : List St0} {at_ : Po} (hq : OkQ c f (sizS (.mk 2 t n [x] b l at_))) (hox : okE x) (hb : c.bad = false) : StmtC ext c f (.mk 2 t n [x] b l at_) := by
  have hb1 := cbad_e hx c
  rw [hb] at hb1
  have hsz : 1 + cntE x ≤ sizS (.mk 2 t n [x] b l at_) := by simp only [sizS, cntEs]; omega
  have hsn := hq.sn
  have hi0 := hq.lo
  have hi1 := hq.hi
  have hlk := clook_e hx c n hq.okc.seen
  have hP : stmtP c.p f.ret c.inn c.seen (.mk 2 t n [x] b l at_) = gotP (lookP c.seen n) at_ fun u => fitK c.p c.seen u x (.ok c.seen) := by
    simp only [stmtP]; unfold stmtK; simp only [Int.reduceEq, if_false, if_true, oneK_one]
  unfold StmtC
  unfold St0.agg
  simp only [St0.kind, St0.t, St0.name, St0.e, St0.body, St0.els, St0.pos]
  rw [one_row]
  cases hlv : lookP c.seen n with
  | none =>
    rw [hlv] at hlk hP
    unfold lookAV at hlk
    have ha1 := cask_e hx c false 5 at_.line at_.col
    have ho1 := hq.okc.ask false 5 (at_.line, at_.col)
    have hc1 : c.ask false 5 (at_.line, at_.col) = c.setD ⟨4, 5, (at_.line, at_.col)⟩ := ask_false hb _ _
    have hcb : (c.ask false 5 (at_.line, at_.col)).bad = true := by rw [hc1]; exact setD_bad c (show (5 : Int) ≠ 0 by decide)
    generalize c.ask false 5 (at_.line, at_.col) = c1 at ha1 ho1 hc1 hcb
    obtain ⟨t1, c2, e1, e2⟩ := cexpr_e hx (cntE x) x (Nat.le_refl _) (by omega) hox c1 ho1
    have h2 := e2.bad hcb
    subst h2
    have hfit := rfits_e hx ⟨false, []⟩ t1
    unfold Tp.av at hfit
    have ha2 := cask_e hx c2 (fitsP ⟨false, []⟩ t1) 7 x.pos.line x.pos.col
    rw [ask_bad hcb] at ha2
    unfold Ex0.agg at e1
    refine ⟨c2, ?_, ?_⟩
    · clear hc1
      rw [G_body hx.clear rfl Try.func68 rfl Try.results68 hv_68 rfl]
      simp (maxSteps := 4000000) (disch := first | (intros; contradiction) | omega) only [go_sem, hb1, hlk, ha1, e1, hfit, ha2]
      done
    · rw [got_none] at hP
      rw [hc1]
      exact relS_err' hb hP (show (5 : Int) ≠ 0 by decide)
  | some u =>
    rw [hlv] at hlk hP
    unfold lookAV at hlk
    have ha1 := cask_e hx c true 5 at_.line at_.col
    rw [ask_true] at ha1
    obtain ⟨t1, c2, e1, e2⟩ := cexpr_e hx (cntE x) x (Nat.le_refl _) (by omega) hox c hq.okc
    have hfit := rfits_e hx u t1
    unfold Tp.av at hfit
    have ha2 := cask_e hx c2 (fitsP u t1) 7 x.pos.line x.pos.col
    have hr := rel_fit (u := u) hb e2
    unfold Ex0.agg at e1
    refine ⟨c2.ask (fitsP u t1) 7 (x.pos.line, x.pos.col), ?_, ?_⟩
    · generalize c2.ask (fitsP u t1) 7 (x.pos.line, x.pos.col) = c3 at ha2
      rw [G_body hx.clear rfl Try.func68 rfl Try.results68 hv_68 rfl]
      simp (maxSteps := 4000000) (disch := first | (intros; contradiction) | omega) only [go_sem, hb1, hlk, ha1, e1, hfit, ha2]
      done
    · rw [got_some] at hP
      rcases hr with ⟨r1, r2⟩ | ⟨d, r1, r2, r3, r4⟩
      · rw [r1] at hP; rw [r2]; exact relS_same hb hP
      · rw [r1] at hP; rw [r2]; exact relS_err' hb hP r4
set_option maxHeartbeats 4000000 in
theorem cstmt3_e (hx : T0 ext) {c : Ck} {f : Fn0} {t : Tp} {n : Str} {x y : Ex0} {b l : List St0} {at_ : Po} (hq : OkQ c f (sizS (.mk 3 t n [x, y] b l at_))) (hox : okE x) (hoy : okE y) (hb : c.bad = false) : StmtC ext c f (.mk 3 t n [x, y] b l at_) := by
  have hb1 := cbad_e hx c
  rw [hb] at hb1
  have hsz : 1 + cntE x + cntE y ≤ sizS (.mk 3 t n [x, y] b l at_) := by simp only [sizS, cntEs]; omega
  have hsn := hq.sn
  have hi0 := hq.lo
  have hi1 := hq.hi
  have hP : stmtP c.p f.ret c.inn c.seen (.mk 3 t n [x, y] b l at_) = andT (exprP c.p c.seen x) fun t => mustP (pointsP t) 7 x.pos (gotP (fieldP c.p t.to n) at_ fun x => fitK c.p c.seen x.2 y (.ok c.seen)) := by
    simp only [stmtP]; unfold stmtK; simp only [Int.reduceEq, if_false, if_true, twoK_two]; rfl
  obtain ⟨t1, c1, e1, e2⟩ := cexpr_e hx (cntE x) x (Nat.le_refl _) (by omega) hox c hq.okc
  obtain ⟨f1, f2, f3, f4⟩ := rel_fo hb e2
  have hpt := cpoints_e hx t1
  have ha1 := cask_e hx c1 (pointsP t1) 7 x.pos.line x.pos.col
  have ho1 := e2.1.ask (pointsP t1) 7 (x.pos.line, x.pos.col)
  have hp1 : (c1.ask (pointsP t1) 7 (x.pos.line, x.pos.col)).p = c.p := by rw [ask_p, f2]
  have hc2 : (exprP c.p c.seen x = .ok t1 ∧ pointsP t1 = true ∧ c1.ask (pointsP t1) 7 (x.pos.line, x.pos.col) = c) ∨ ∃ d, (andT (exprP c.p c.seen x) (fun t => mustP (pointsP t) 7 x.pos (gotP (fieldP c.p t.to n) at_ fun x => fitK c.p c.seen x.2 y (.ok c.seen))) = .error d) ∧ c1.ask (pointsP t1) 7 (x.pos.line, x.pos.col) = c.setD d ∧ (c1.ask (pointsP t1) 7 (x.pos.line, x.pos.col)).bad = true ∧ d.what ≠ 0 := by
    rcases e2.good hb with ⟨v, u1, u2, u3⟩ | ⟨d, u1, u2, u3, u4⟩
    · subst u2 u3
      rcases ask_cases hb (pointsP t1) (show (7 : Int) ≠ 0 by decide) x.pos with ⟨v1, v2⟩ | ⟨v1, v2, v3⟩
      · exact .inl ⟨u1, v1, v2⟩
      · exact .inr ⟨_, by rw [u1, andT_ok, v1, must_f], v2, v3, show (7 : Int) ≠ 0 by decide⟩
    · exact .inr ⟨d, by rw [u1, andT_err], by rw [ask_bad u3]; exact u2, by rw [ask_bad u3]; exact u3, u4⟩
  generalize c1.ask (pointsP t1) 7 (x.pos.line, x.pos.col) = c2 at ha1 ho1 hp1 hc2
  have hfl := rfield_e hx c2.p t1.to n ho1.p.structs ho1.p.fields
  unfold Pr0.av at hfl
  unfold StmtC
  unfold St0.agg
  unfold Ex0.agg at e1
  simp only [St0.kind, St0.t, St0.name, St0.e, St0.body, St0.els, St0.pos]
  rw [two_row]
  cases hfd : fieldP c2.p t1.to n with
  | none =>
    rw [hfd] at hfl
    unfold fldA at hfl
    have ha2 := cask_e hx c2 false 5 at_.line at_.col
    have ho2 := ho1.ask false 5 (at_.line, at_.col)
    have hc3 : ∃ d, stmtP c.p f.ret c.inn c.seen (.mk 3 t n [x, y] b l at_) = .error d ∧ d.what ≠ 0 ∧ c2.ask false 5 (at_.line, at_.col) = c.setD d ∧ (c2.ask false 5 (at_.line, at_.col)).bad = true := by
      rcases hc2 with ⟨s1, s2, s3⟩ | ⟨d, s1, s2, s3, s4⟩
      · rw [s3] at hfd ⊢
        refine ⟨⟨4, 5, (at_.line, at_.col)⟩, ?_, show (5 : Int) ≠ 0 by decide, ask_false hb _ _, by rw [ask_false hb]; exact setD_bad c (show (5 : Int) ≠ 0 by decide)⟩
        rw [hP, s1, andT_ok, s2, must_t, hfd, got_none]
      · exact ⟨d, by rw [hP, s1], s4, by rw [ask_bad s3]; exact s2, by rw [ask_bad s3]; exact s3⟩
    obtain ⟨d, d1, d2, d3, d4⟩ := hc3
    generalize c2.ask false 5 (at_.line, at_.col) = c3 at ha2 ho2 d3 d4
    obtain ⟨t2, c4, g1, g2⟩ := cexpr_e hx (cntE y) y (Nat.le_refl _) (by omega) hoy c3 ho2
    have h4 := g2.bad d4
    subst h4
    have hfit := rfits_e hx ⟨false, []⟩ t2
    unfold Tp.av at hfit
    have ha3 := cask_e hx c4 (fitsP ⟨false, []⟩ t2) 7 y.pos.line y.pos.col
    rw [ask_bad d4] at ha3
    unfold Ex0.agg at g1
    refine ⟨c4, ?_, by rw [d3]; exact relS_err' hb d1 d2⟩
    clear hc2 d3 e2 f1 f2 f3 f4
    rw [G_body hx.clear rfl Try.func68 rfl Try.results68 hv_68 rfl]
    simp (maxSteps := 4000000) (disch := first | (intros; contradiction) | omega) only [go_sem, hb1, e1, hpt, ha1, hfl, ha2, g1, hfit, ha3]
    done
  | some iu =>
    obtain ⟨iu1, u⟩ := iu
    rw [hfd] at hfl
    unfold fldA at hfl
    simp only at hfl
    have ha2 := cask_e hx c2 true 5 at_.line at_.col
    rw [ask_true] at ha2
    obtain ⟨t2, c4, g1, g2⟩ := cexpr_e hx (cntE y) y (Nat.le_refl _) (by omega) hoy c2 ho1
    have hfit := rfits_e hx u t2
    unfold Tp.av at hfit
    have ha3 := cask_e hx c4 (fitsP u t2) 7 y.pos.line y.pos.col
    unfold Ex0.agg at g1
    refine ⟨c4.ask (fitsP u t2) 7 (y.pos.line, y.pos.col), ?_, ?_⟩
    · generalize c4.ask (fitsP u t2) 7 (y.pos.line, y.pos.col) = c5 at ha3
      clear hc2 e2 f1 f2 f3 f4 g2
      rw [G_body hx.clear rfl Try.func68 rfl Try.results68 hv_68 rfl]
      simp (maxSteps := 4000000) (disch := first | (intros; contradiction) | omega) only [go_sem, hb1, e1, hpt, ha1, hfl, ha2, g1, hfit, ha3]
      done
    · rcases hc2 with ⟨s1, s2, s3⟩ | ⟨d, s1, s2, s3, s4⟩
      · subst s3
        rw [s1, andT_ok, s2, must_t, hfd, got_some] at hP
        change _ = fitK c2.p c2.seen u y (.ok c2.seen) at hP
        rcases rel_fit (u := u) hb g2 with ⟨r1, r2⟩ | ⟨d, r1, r2, r3, r4⟩
        · rw [r1] at hP; rw [r2]; exact relS_same hb hP
        · rw [r1] at hP; rw [r2]; exact relS_err' hb hP r4
      · rw [s1] at hP
        have h4 := g2.bad s3
        subst h4
        rw [ask_bad s3, s2]
        exact relS_err' hb hP s4
end Go.Proofs.Ythfollapianblaa
namespace Go.Proofs.Ythfollapianblaa
open Go Go.Ab
variable {ext : Sem'}
/-- Two checkers alike but for the fault. -/
structure Like (c c' : Ck) : Prop where
  p : c'.p = c.p
  fo : c'.fo = c.fo
  seen : c'.seen = c.seen
  inn : c'.inn = c.inn
theorem Like.refl (c : Ck) : Like c c := ⟨rfl, rfl, rfl, rfl⟩
theorem Like.setD (c : Ck) (d : Dg) : Like c (c.setD d) := ⟨rfl, rfl, rfl, rfl⟩
theorem Like.ask (c : Ck) (b : Bool) (f : Int) (q : Int × Int) : Like c (c.ask b f q) := ⟨ask_p _ _ _ _, ask_fo _ _ _ _, ask_seen _ _ _ _, ask_inn _ _ _ _⟩
theorem Like.trans {a b c : Ck} (h : Like a b) (k : Like b c) : Like a c := ⟨k.p.trans h.p, k.fo.trans h.fo, k.seen.trans h.seen, k.inn.trans h.inn⟩
theorem RelE.like {c c1 : Ck} {x : Except Dg Tp} {t : Tp} (hb : c.bad = false) (h : RelE c x t c1) : Like c c1 := by
  obtain ⟨h1, h2, h3, h4⟩ := rel_fo hb h
  exact ⟨h2, h1, h4, h3⟩
theorem OkQ.like {c c' : Ck} {f : Fn0} {m m' : Nat} (h : OkQ c f m) (k : Like c c') (hm : m' ≤ m) : OkQ c' f m' := by
  have h1 := h.lo
  have h2 := h.hi
  have h3 := h.sn
  exact ⟨⟨by rw [k.p]; exact h.okc.p, by rw [k.seen]; exact h.okc.seen⟩, by rw [k.inn]; exact h1, by rw [k.inn]; omega, by rw [k.seen]; omega, by rw [k.fo]; exact h.fo⟩
theorem RelB.good {c c' : Ck} {f : Fn0} {l : List St0} (h : RelB c f l c') (hb : c.bad = false) : ((∃ env, blockP c.p f.ret c.inn c.seen false l = .ok env) ∧ c' = c) ∨ ∃ d, blockP c.p f.ret c.inn c.seen false l = .error d ∧ c' = c.setD d ∧ c'.bad = true ∧ d.what ≠ 0 := by
  obtain ⟨h1, h2⟩ := h.2 hb
  cases hp : blockP c.p f.ret c.inn c.seen false l with
  | ok env => exact .inl ⟨⟨env, rfl⟩, h1 env hp⟩
  | error d =>
    obtain ⟨k1, k2⟩ := h2 d hp
    exact .inr ⟨d, rfl, k2, by rw [k2]; exact setD_bad c k1, k1⟩
theorem RelB.like {c c' : Ck} {f : Fn0} {l : List St0} (h : RelB c f l c') : Like c c' := by
  cases hb : c.bad with
  | true => rw [h.1 hb]; exact Like.refl c
  | false =>
    rcases h.good hb with ⟨_, k⟩ | ⟨d, _, k, _⟩
    · rw [k]; exact Like.refl c
    · rw [k]; exact Like.setD c d
set_option maxHeartbeats 4000000 in
theorem cstmt4_e (hx : T0 ext) {c : Ck} {f : Fn0} {t : Tp} {n : Str} {x : Ex0} {b l : List St0} {at_ : Po} (hq : OkQ c f (sizS (.mk 4 t n [x] b l at_))) (hox : okE x) (hb : c.bad = false) (hB : ∀ c, OkQ c f (sizL b) → BlockC ext c f b) (hL : ∀ c, OkQ c f (sizL l) → BlockC ext c f l) : StmtC ext c f (.mk 4 t n [x] b l at_) := by
  have hb1 := cbad_e hx c
  rw [hb] at hb1
  have hsz : 1 + cntE x + sizL b + sizL l ≤ sizS (.mk 4 t n [x] b l at_) := by simp only [sizS, cntEs]; omega
  have hsn := hq.sn
  have hi0 := hq.lo
  have hi1 := hq.hi
  have hP : stmtP c.p f.ret c.inn c.seen (.mk 4 t n [x] b l at_) = numK c.p c.seen x (andT (blockP c.p f.ret c.inn c.seen false b) fun _ => andT (blockP c.p f.ret c.inn c.seen false l) fun _ => .ok c.seen) := by
    simp only [stmtP]; unfold stmtK; simp only [Int.reduceEq, if_false, if_true, oneK_one]
  obtain ⟨t1, c1, e1, e2⟩ := cexpr_e hx (cntE x) x (Nat.le_refl _) (by omega) hox c hq.okc
  have hlk1 := e2.like hb
  have ha1 := cask_e hx c1 (!t1.ptr) 7 x.pos.line x.pos.col
  have hlk2 := hlk1.trans (Like.ask c1 (!t1.ptr) 7 (x.pos.line, x.pos.col))
  have hr := rel_num hb e2
  generalize c1.ask (!t1.ptr) 7 (x.pos.line, x.pos.col) = c2 at ha1 hlk2 hr
  obtain ⟨c3, g1, g2⟩ := hB c2 (hq.like hlk2 (by omega))
  obtain ⟨c4, h1, h2⟩ := hL c3 (hq.like (hlk2.trans g2.like) (by omega))
  refine ⟨c4, ?_, ?_⟩
  · clear hr e2 hlk1 hlk2 g2 h2
    unfold St0.agg
    unfold Ex0.agg at e1
    simp only [St0.kind, St0.t, St0.name, St0.e, St0.body, St0.els, St0.pos]
    rw [one_row]
    rw [G_body hx.clear rfl Try.func68 rfl Try.results68 hv_68 rfl]
    simp (maxSteps := 4000000) (disch := first | (intros; contradiction) | omega) only [go_sem, hb1, e1, ha1, g1, h1]
    done
  · rcases hr with ⟨r1, r2⟩ | ⟨d, r1, r2, r3, r4⟩
    · rw [r1] at hP
      subst r2
      rcases g2.good hb with ⟨⟨env, s1⟩, s2⟩ | ⟨d, s1, s2, s3, s4⟩
      · subst s2
        rw [s1, andT_ok] at hP
        rcases h2.good hb with ⟨⟨env2, v1⟩, v2⟩ | ⟨d, v1, v2, v3, v4⟩
        · rw [v1, andT_ok] at hP
          rw [v2]; exact relS_same hb hP
        · rw [v1, andT_err] at hP
          rw [v2]; exact relS_err' hb hP v4
      · rw [s1, andT_err] at hP
        rw [h2.1 s3, s2]; exact relS_err' hb hP s4
    · rw [r1] at hP
      have k3 := g2.1 r3
      subst k3
      rw [h2.1 r3, r2]; exact relS_err' hb hP r4
set_option maxHeartbeats 4000000 in
theorem cstmt5_e (hx : T0 ext) {c : Ck} {f : Fn0} {t : Tp} {n : Str} {x : Ex0} {b : List St0} {at_ : Po} (hq : OkQ c f (sizS (.mk 5 t n [x] b [] at_))) (hox : okE x) (hb : c.bad = false) (hB : ∀ c, OkQ c f (sizL b) → BlockC ext c f b) (hL : ∀ c, OkQ c f (sizL []) → BlockC ext c f []) : StmtC ext c f (.mk 5 t n [x] b [] at_) := by
  have hb1 := cbad_e hx c
  rw [hb] at hb1
  have hsz : 1 + cntE x + sizL b ≤ sizS (.mk 5 t n [x] b [] at_) := by simp only [sizS, cntEs]; omega
  have hsn := hq.sn
  have hi0 := hq.lo
  have hi1 := hq.hi
  have hP : stmtP c.p f.ret c.inn c.seen (.mk 5 t n [x] b [] at_) = numK c.p c.seen x (andT (blockP c.p f.ret (c.inn + 1) c.seen false b) fun _ => .ok c.seen) := by
    simp only [stmtP]; unfold stmtK; simp only [Int.reduceEq, if_false, if_true, oneK_one]
  obtain ⟨t1, c1, e1, e2⟩ := cexpr_e hx (cntE x) x (Nat.le_refl _) (by omega) hox c hq.okc
  have hlk1 := e2.like hb
  have ha1 := cask_e hx c1 (!t1.ptr) 7 x.pos.line x.pos.col
  have hlk2 := hlk1.trans (Like.ask c1 (!t1.ptr) 7 (x.pos.line, x.pos.col))
  have hr := rel_num hb e2
  generalize c1.ask (!t1.ptr) 7 (x.pos.line, x.pos.col) = c2 at ha1 hlk2 hr
  have hin := hlk2.inn
  have hw1 : IntKind.wrap .i64 (c2.inn + 1) = c2.inn + 1 := wrap64 (by omega) (by omega)
  have hf1 := setI_fold c2 (c2.inn + 1)
  have hq2 : OkQ (c2.setI (c2.inn + 1)) f (sizL b) := by
    have := hq.like hlk2 (Nat.le_refl _)
    exact ⟨⟨this.okc.p, this.okc.seen⟩, by show 0 ≤ c2.inn + 1; omega, by show c2.inn + 1 + sizL b ≤ 1000000; omega, by show c2.seen.length + sizL b ≤ 1000000; have := this.sn; omega, this.fo⟩
  obtain ⟨c3, g1, g2⟩ := hB _ hq2
  have hlk3 := g2.like
  have hin3 : c3.inn = c2.inn + 1 := hlk3.inn
  have hw2 : IntKind.wrap .i64 (c3.inn - 1) = c3.inn - 1 := wrap64 (by omega) (by omega)
  have hf2 := setI_fold c3 (c3.inn - 1)
  have hq3 : OkQ (c3.setI (c3.inn - 1)) f (sizL []) := by
    have := hq2.like hlk3 (Nat.le_refl _)
    exact ⟨⟨this.okc.p, this.okc.seen⟩, by show 0 ≤ c3.inn - 1; omega, by show c3.inn - 1 + sizL [] ≤ 1000000; simp only [sizL]; omega, by show c3.seen.length + sizL [] ≤ 1000000; have := this.sn; simp only [sizL]; omega, this.fo⟩
  obtain ⟨c4, h1, h2⟩ := hL _ hq3
  have h4 : c4 = c3.setI (c3.inn - 1) := by
    cases hb4 : (c3.setI (c3.inn - 1)).bad with
    | true => exact h2.1 hb4
    | false =>
      rcases h2.good hb4 with ⟨_, k⟩ | ⟨d, k, _⟩
      · exact k
      · simp only [blockP] at k; cases k
  subst h4
  simp only [List.map_nil] at h1
  refine ⟨c3.setI (c3.inn - 1), ?_, ?_⟩
  · clear hr e2 hlk1 hlk2 g2 h2 hlk3 hq2 hq3
    unfold St0.agg
    unfold Ex0.agg at e1
    simp only [St0.kind, St0.t, St0.name, St0.e, St0.body, St0.els, St0.pos, List.map_nil]
    rw [one_row]
    rw [G_body hx.clear rfl Try.func68 rfl Try.results68 hv_68 rfl]
    simp (maxSteps := 4000000) (disch := first | (intros; contradiction) | omega) only [go_sem, hb1, e1, ha1, hw1, hf1, g1, hw2, hf2, h1]
    done
  · have hb' : ∀ c : Ck, c.bad = false → (c.setI (c.inn + 1)).bad = false := fun c h => h
    rcases hr with ⟨r1, r2⟩ | ⟨d, r1, r2, r3, r4⟩
    · rw [r1] at hP
      subst r2
      rcases g2.good (hb' _ hb) with ⟨⟨env, s1⟩, s2⟩ | ⟨d, s1, s2, s3, s4⟩
      · change blockP c2.p f.ret (c2.inn + 1) c2.seen false b = .ok env at s1
        rw [s1, andT_ok] at hP
        have : c3.setI (c3.inn - 1) = c2 := by rw [s2]; cases c2; simp [Ck.setI]
        rw [this]; exact relS_same hb hP
      · change blockP c2.p f.ret (c2.inn + 1) c2.seen false b = .error d at s1
        rw [s1, andT_err] at hP
        have : c3.setI (c3.inn - 1) = c2.setD d := by rw [s2]; cases c2; simp [Ck.setI, Ck.setD]
        rw [this]; exact relS_err' hb hP s4
    · rw [r1] at hP
      have k3 := g2.1 (show (c2.setI (c2.inn + 1)).bad = true from r3)
      have : c3.setI (c3.inn - 1) = c2 := by rw [k3]; cases c2; simp [Ck.setI]
      rw [this, r2]; exact relS_err' hb hP r4
/-- A plain statement. -/
def PlainC (ext : Sem') (c : Ck) (f : Fn0) (s : St0) : Prop := ∃ c', G ext 76 [.ptr 0 0, s.agg] [ckO c] = some (.ret (.tuple []), [ckO c']) ∧ RelS c f s c'
theorem cstmtp_e (hx : T0 ext) {c : Ck} {f : Fn0} {s : St0} (hb : c.bad = false) (h : s.kind ≠ 1 ∧ s.kind ≠ 2 ∧ s.kind ≠ 3 ∧ s.kind ≠ 4 ∧ s.kind ≠ 5) (hp : PlainC ext c f s) : StmtC ext c f s := by
  have hb1 := cbad_e hx c
  rw [hb] at hb1
  obtain ⟨c', h1, h2⟩ := hp
  obtain ⟨k1, k2, k3, k4, k5⟩ := h
  refine ⟨c', ?_, h2⟩
  unfold St0.agg at h1 ⊢
  rw [G_body hx.clear rfl Try.func68 rfl Try.results68 hv_68 rfl]
  simp (maxSteps := 4000000) (disch := first | (intros; contradiction) | omega) only [go_sem, hb1, k1, k2, k3, k4, k5, h1]
  done
set_option maxHeartbeats 4000000 in
theorem cplain_e (hx : T0 ext) {c : Ck} {f : Fn0} {k : Int} {t : Tp} {n : Str} {es : List Ex0} {b l : List St0} {at_ : Po} (hq : OkQ c f (sizS (.mk k t n es b l at_))) (hb : c.bad = false) (har : arS k es.length) (hoe : okEs es) (hk : k ≠ 1 ∧ k ≠ 2 ∧ k ≠ 3 ∧ k ≠ 4 ∧ k ≠ 5) : PlainC ext c f (.mk k t n es b l at_) := by
  obtain ⟨k1, k2, k3, k4, k5⟩ := hk
  have hsn := hq.sn
  have hi0 := hq.lo
  have hi1 := hq.hi
  have hP : stmtP c.p f.ret c.inn c.seen (.mk k t n es b l at_) = stmtK c.p f.ret c.inn c.seen k t n es at_ (fun i => blockP c.p f.ret i c.seen false b) (blockP c.p f.ret c.inn c.seen false l) := by simp only [stmtP]
  unfold stmtK at hP
  rw [if_neg k1, if_neg k2, if_neg k3, if_neg k4, if_neg k5] at hP
  unfold PlainC St0.agg
  simp only [St0.kind, St0.t, St0.name, St0.e, St0.body, St0.els, St0.pos]
  by_cases k67 : k = 6 ∨ k = 7
  · rw [if_pos k67] at hP
    have ha := cask_e hx c (decide (0 < c.inn)) 3 at_.line at_.col
    refine ⟨c.ask (decide (0 < c.inn)) 3 (at_.line, at_.col), ?_, ?_⟩
    · generalize c.ask (decide (0 < c.inn)) 3 (at_.line, at_.col) = c1 at ha
      rw [G_body hx.clear rfl Try.func76 rfl Try.results76 hv_76 rfl]
      rcases k67 with rfl | rfl
      · simp (maxSteps := 4000000) (disch := first | (intros; contradiction) | omega) only [go_sem, ha]
        done
      · simp (maxSteps := 4000000) (disch := first | (intros; contradiction) | omega) only [go_sem, ha]
        done
    · rcases ask_cases hb (decide (0 < c.inn)) (show (3 : Int) ≠ 0 by decide) at_ with ⟨v1, v2⟩ | ⟨v1, v2, v3⟩
      · rw [v1, must_t] at hP; rw [v2]; exact relS_same hb hP
      · rw [v1, must_f] at hP; rw [v2]; exact relS_err' hb hP (show (3 : Int) ≠ 0 by decide)
  rw [if_neg k67] at hP
  have k6 : ¬ k = 6 := fun h => k67 (.inl h)
  have k7 : ¬ k = 7 := fun h => k67 (.inr h)
  by_cases k8 : k = 8
  · subst k8
    obtain ⟨x, rfl⟩ := len_one (har.1 (by omega))
    have hsz : 1 + cntE x ≤ sizS (.mk 8 t n [x] b l at_) := by simp only [sizS, cntEs]; omega
    simp only [if_true, oneK_one] at hP
    obtain ⟨t1, c1, e1, e2⟩ := cexpr_e hx (cntE x) x (Nat.le_refl _) (by omega) hoe.1 c hq.okc
    obtain ⟨q2, q3⟩ := fnC_ret (o := c1.fo) (f := f) (by rw [(e2.like hb).fo]; exact hq.fo)
    have hfit := rfits_e hx f.ret t1
    unfold Tp.av at hfit
    have ha := cask_e hx c1 (fitsP f.ret t1) 7 x.pos.line x.pos.col
    have hr := rel_fit (u := f.ret) hb e2
    unfold Ex0.agg at e1
    rw [one_row]
    refine ⟨c1.ask (fitsP f.ret t1) 7 (x.pos.line, x.pos.col), ?_, ?_⟩
    · generalize c1.ask (fitsP f.ret t1) 7 (x.pos.line, x.pos.col) = c2 at ha
      clear hr e2
      rw [G_body hx.clear rfl Try.func76 rfl Try.results76 hv_76 rfl]
      simp (maxSteps := 4000000) (disch := first | (intros; contradiction) | omega) only [go_sem, e1, q2, q3, hfit, ha]
      done
    · rcases hr with ⟨r1, r2⟩ | ⟨d, r1, r2, r3, r4⟩
      · rw [r1] at hP; rw [r2]; exact relS_same hb hP
      · rw [r1] at hP; rw [r2]; exact relS_err' hb hP r4
  rw [if_neg k8] at hP
  by_cases k9 : k = 9
  · subst k9
    rw [if_pos rfl] at hP
    have hlk := clook_e hx c n hq.okc.seen
    cases hlv : lookP c.seen n with
    | none =>
      rw [hlv] at hlk hP
      unfold lookAV at hlk
      have ha1 := cask_e hx c false 5 at_.line at_.col
      have hc1 : c.ask false 5 (at_.line, at_.col) = c.setD ⟨4, 5, (at_.line, at_.col)⟩ := ask_false hb _ _
      have hcb : (c.ask false 5 (at_.line, at_.col)).bad = true := by rw [hc1]; exact setD_bad c (show (5 : Int) ≠ 0 by decide)
      generalize c.ask false 5 (at_.line, at_.col) = c1 at ha1 hc1 hcb
      have ha2 := cask_e hx c1 false 7 at_.line at_.col
      rw [ask_bad hcb] at ha2
      refine ⟨c1, ?_, ?_⟩
      · clear hc1
        rw [G_body hx.clear rfl Try.func76 rfl Try.results76 hv_76 rfl]
        simp (maxSteps := 4000000) (disch := first | (intros; contradiction) | omega) only [go_sem, hlk, ha1, ha2]
        done
      · rw [got_none] at hP
        rw [hc1]; exact relS_err' hb hP (show (5 : Int) ≠ 0 by decide)
    | some u =>
      rw [hlv] at hlk hP
      unfold lookAV at hlk
      have ha1 := cask_e hx c true 5 at_.line at_.col
      rw [ask_true] at ha1
      have ha2 := cask_e hx c u.ptr 7 at_.line at_.col
      refine ⟨c.ask u.ptr 7 (at_.line, at_.col), ?_, ?_⟩
      · generalize c.ask u.ptr 7 (at_.line, at_.col) = c2 at ha2
        rw [G_body hx.clear rfl Try.func76 rfl Try.results76 hv_76 rfl]
        simp (maxSteps := 4000000) (disch := first | (intros; contradiction) | omega) only [go_sem, hlk, ha1, ha2]
        done
      · rw [got_some] at hP
        rcases ask_cases hb u.ptr (show (7 : Int) ≠ 0 by decide) at_ with ⟨v1, v2⟩ | ⟨v1, v2, v3⟩
        · rw [v1, must_t] at hP; rw [v2]; exact relS_same hb hP
        · rw [v1, must_f] at hP; rw [v2]; exact relS_err' hb hP (show (7 : Int) ≠ 0 by decide)
  rw [if_neg k9] at hP
  by_cases k10 : k = 10
  · subst k10
    obtain ⟨x, rfl⟩ := len_one (har.1 (by omega))
    have hsz : 1 + cntE x ≤ sizS (.mk 10 t n [x] b l at_) := by simp only [sizS, cntEs]; omega
    simp only [if_true, oneK_one] at hP
    obtain ⟨t1, c1, e1, e2⟩ := cexpr_e hx (cntE x) x (Nat.le_refl _) (by omega) hoe.1 c hq.okc
    have ha := cask_e hx c1 (!t1.ptr) 7 x.pos.line x.pos.col
    have hr := rel_num hb e2
    unfold Ex0.agg at e1
    rw [one_row]
    refine ⟨c1.ask (!t1.ptr) 7 (x.pos.line, x.pos.col), ?_, ?_⟩
    · generalize c1.ask (!t1.ptr) 7 (x.pos.line, x.pos.col) = c2 at ha
      clear hr e2
      rw [G_body hx.clear rfl Try.func76 rfl Try.results76 hv_76 rfl]
      simp (maxSteps := 4000000) (disch := first | (intros; contradiction) | omega) only [go_sem, e1, ha]
      done
    · rcases hr with ⟨r1, r2⟩ | ⟨d, r1, r2, r3, r4⟩
      · rw [r1] at hP; rw [r2]; exact relS_same hb hP
      · rw [r1] at hP; rw [r2]; exact relS_err' hb hP r4
  rw [if_neg k10] at hP
  by_cases k11 : k = 11
  · subst k11
    obtain ⟨x, rfl⟩ := len_one (har.1 (by omega))
    have hsz : 1 + cntE x ≤ sizS (.mk 11 t n [x] b l at_) := by simp only [sizS, cntEs]; omega
    simp only [if_true, oneK_one] at hP
    obtain ⟨t1, c1, e1, e2⟩ := cexpr_e hx (cntE x) x (Nat.le_refl _) (by omega) hoe.1 c hq.okc
    have hr := e2.good hb
    unfold Ex0.agg at e1
    rw [one_row]
    refine ⟨c1, ?_, ?_⟩
    · clear hr e2
      rw [G_body hx.clear rfl Try.func76 rfl Try.results76 hv_76 rfl]
      simp (maxSteps := 4000000) (disch := first | (intros; contradiction) | omega) only [go_sem, e1]
      done
    · rcases hr with ⟨v, u1, u2, u3⟩ | ⟨d, u1, u2, u3, u4⟩
      · rw [u1, andT_ok] at hP; rw [u3]; exact relS_same hb hP
      · rw [u1, andT_err] at hP; rw [u2]; exact relS_err' hb hP u4
  rw [if_neg k11] at hP
  refine ⟨c, ?_, relS_same hb hP⟩
  rw [G_body hx.clear rfl Try.func76 rfl Try.results76 hv_76 rfl]
  simp (maxSteps := 4000000) (disch := first | (intros; contradiction) | omega) only [go_sem, k6, k7, k8, k9, k10, k11]
  done
end Go.Proofs.Ythfollapianblaa
namespace Go.Proofs.Ythfollapianblaa
open Go Go.Ab
variable {ext : Sem'}
theorem mustP_len {b : Bool} {f : Int} {p : Po} {k : Except Dg (List Fl0)} {n : Nat} (h : ∀ env, k = .ok env → env.length ≤ n) : ∀ env, mustP b f p k = .ok env → env.length ≤ n := by
  intro env he
  cases b with
  | true => exact h env he
  | false => cases he
theorem andT_len {α : Type} {x : Except Dg α} {k : α → Except Dg (List Fl0)} {n : Nat} (h : ∀ a env, k a = .ok env → env.length ≤ n) : ∀ env, andT x k = .ok env → env.length ≤ n := by
  intro env he
  cases x with
  | ok a => exact h a env he
  | error d => cases he
theorem gotP_len {α : Type} {x : Option α} {p : Po} {k : α → Except Dg (List Fl0)} {n : Nat} (h : ∀ a env, k a = .ok env → env.length ≤ n) : ∀ env, gotP x p k = .ok env → env.length ≤ n := by
  intro env he
  cases x with
  | some a => exact h a env he
  | none => cases he
theorem oneK_len {α : Type} {l : List α} {g : α → Except Dg (List Fl0)} {z : List Fl0} {n : Nat} (hz : z.length ≤ n) (h : ∀ x env, g x = .ok env → env.length ≤ n) : ∀ env, oneK l g (.ok z) = .ok env → env.length ≤ n := by
  intro env he
  unfold oneK at he
  split at he
  · exact h _ env he
  · cases he; exact hz
theorem twoK_len {α : Type} {l : List α} {g : α → α → Except Dg (List Fl0)} {z : List Fl0} {n : Nat} (hz : z.length ≤ n) (h : ∀ x y env, g x y = .ok env → env.length ≤ n) : ∀ env, twoK l g (.ok z) = .ok env → env.length ≤ n := by
  intro env he
  unfold twoK at he
  split at he
  · exact h _ _ env he
  · cases he; exact hz
theorem stmtP_len {p : Pr0} {ret : Tp} {inn : Int} {env : List Fl0} (s : St0) : ∀ env', stmtP p ret inn env s = .ok env' → env'.length ≤ env.length + 1 := by
  obtain ⟨k, t, n, es, b, l, at_⟩ := s
  have hsame : ∀ e : List Fl0, (Except.ok env : Except Dg (List Fl0)) = .ok e → e.length ≤ env.length + 1 := fun e he => by cases he; omega
  have hz : env.length ≤ env.length + 1 := by omega
  simp only [stmtP]
  unfold stmtK fitK numK memK
  split
  · exact oneK_len hz fun x => mustP_len (andT_len fun u => mustP_len (mustP_len fun e he => by cases he; simp))
  split
  · exact oneK_len hz fun x => gotP_len fun u => andT_len fun v => mustP_len hsame
  split
  · exact twoK_len hz fun x y => andT_len fun v => mustP_len (gotP_len fun w => andT_len fun u => mustP_len hsame)
  split
  · exact oneK_len hz fun x => andT_len fun v => mustP_len (andT_len fun _ => andT_len fun _ => hsame)
  split
  · exact oneK_len hz fun x => andT_len fun v => mustP_len (andT_len fun _ => hsame)
  split
  · exact mustP_len hsame
  split
  · exact oneK_len hz fun x => andT_len fun v => mustP_len hsame
  split
  · exact gotP_len fun u => mustP_len hsame
  split
  · exact oneK_len hz fun x => andT_len fun v => mustP_len hsame
  split
  · exact oneK_len hz fun x => andT_len fun v => hsame
  · exact hsame
theorem ends_snoc (l : List St0) (s : St0) : endsP (l ++ [s]) = (endsP l || overP s) := by
  rw [ends_any, ends_any]; simp
theorem take_snoc {α : Type} {l : List α} {k : Nat} {x : α} (h : l[k]? = some x) : l.take (k + 1) = l.take k ++ [x] := by
  rw [List.take_add_one, h]; rfl
theorem sizL_take : ∀ (l : List St0) (k : Nat), k ≤ l.length → k ≤ sizL (l.take k)
  | l, 0, _ => Nat.zero_le _
  | [], k + 1, h => by simp at h
  | s :: l, k + 1, h => by
    have := sizL_take l k (by simpa using h)
    have := sizS_eq s
    simp only [List.take_succ_cons, sizL]; omega
set_option maxHeartbeats 4000000 in
theorem cblock_e (hx : T0 ext) {c : Ck} {f : Fn0} {l : List St0} (hq : OkQ c f (sizL l)) (hS : ∀ s, s ∈ l → ∀ c, OkQ c f (sizS s) → StmtC ext c f s) : BlockC ext c f l := by
  have hsn := hq.sn
  have hi0 := hq.lo
  have hi1 := hq.hi
  have hll : (l.map St0.row).length = l.length := List.length_map _
  have hlen := sizL_len l
  have hb1 := cbad_e hx c
  cases hb : c.bad with
  | true =>
    rw [hb] at hb1
    have hbk := back_fold c c
    rw [setS_self] at hbk
    refine ⟨c, ?_, (fun _ => rfl), fun h => by (rw [hb] at h; cases h)⟩
    rw [G_body hx.clear rfl Try.func55 rfl Try.results55 hv_55 rfl]
    simp (maxSteps := 4000000) (disch := first | (intros; contradiction) | omega) only [go_sem]
    generalize hL : loopA _ _ _ = L
    rw [loopA_eq] at hL
    subst hL
    by_cases h0 : (0 : Int) < (l.length : Int)
    · simp (maxSteps := 4000000) (disch := first | (intros; contradiction) | omega) only [go_sem, hll, h0, hb1, hbk]
      done
    · simp (maxSteps := 4000000) (disch := first | (intros; contradiction) | omega) only [go_sem, hll, h0, hb1, hbk]
      done
  | false =>
    generalize hA : blockP c.p f.ret c.inn c.seen false l = A
    unfold BlockC
    rw [G_body hx.clear rfl Try.func55 rfl Try.results55 hv_55 rfl]
    simp (maxSteps := 4000000) (disch := first | (intros; contradiction) | omega) only [go_sem]
    generalize hL : loopA _ _ _ = L
    apply loop_upd hL (by simp (maxSteps := 4000000) (disch := first | (intros; contradiction) | omega) only [go_sem] <;> rfl) (fun x : Nat × Ck => x.1 ≤ l.length ∧ ((∃ env, x.2 = c.setS env ∧ env.length ≤ c.seen.length + x.1 ∧ A = blockP c.p f.ret c.inn env (endsP (l.take x.1)) (l.drop x.1)) ∨ ∃ d sn, A = .error d ∧ d.what ≠ 0 ∧ x.2 = (c.setD d).setS sn)) (fun x => l.length - x.1) (fun x => [(5, .d (.int .i64 x.1))]) (fun x => [(0, ckO x.2)]) (0, c) (by simp (maxSteps := 4000000) (disch := first | (intros; contradiction) | omega) only [go_sem] <;> rfl) ⟨Nat.zero_le _, .inl ⟨c.seen, rfl, by omega, by simpa [endsP] using hA.symm⟩⟩ ?_
    clear hL
    rintro ⟨k, c1⟩ ⟨h1, h2⟩ next ih
    simp only at h1 h2 ih ⊢
    have hbd := cbad_e hx c1
    have hbk := back_fold c c1
    have hk0 : (0 : Int) ≤ (k : Int) := by omega
    rcases h2 with ⟨env, rfl, h3, h4⟩ | ⟨d, sn, d1, d2, rfl⟩
    · have hb' : (c.setS env).bad = false := hb
      rw [hb'] at hbd
      by_cases hkl : k < l.length
      · have hlt : (k : Int) < (l.length : Int) := by omega
        have hkle : (k : Int) ≤ (l.length : Int) := by omega
        have hx1 : l[k]? = some l[k] := List.getElem?_eq_getElem hkl
        have hxm := List.mem_of_getElem? hx1
        have hr1 : (l.map St0.row)[k]? = some (St0.row l[k]) := by rw [List.getElem?_map, hx1]; rfl
        have hd1 : l.drop k = l[k] :: l.drop (k + 1) := List.drop_eq_getElem_cons hkl
        have htk := sizL_take l k (by omega)
        have hsp : sizL l = sizL (l.take k) + sizL (l.drop k) := by rw [← sizL_append, List.take_append_drop]
        have hts := take_snoc hx1
        rw [hd1] at h4 hsp
        simp only [sizL] at hsp
        generalize l[k] = s at hx1 hxm hr1 h4 hsp hts
        simp only [blockP] at h4
        rw [St0.row_eq] at hr1
        have hmt : (l.map St0.row).take k = (l.take k).map St0.row := (List.map_take ..).symm
        have hen := rends_e hx 1000000 (l.take k) (by have := cntL_siz (l.take k); omega) (Nat.le_refl _)
        have ha := cask_e hx (c.setS env) (!endsP (l.take k)) 3 s.pos.line s.pos.col
        have hq1 : OkQ (c.setS env) f (sizS s) := ⟨⟨hq.okc.p, by show env.length ≤ 1000000; omega⟩, hi0, by show c.inn + (sizS s : Int) ≤ 1000000; omega, by show env.length + sizS s ≤ 1000000; omega, hq.fo⟩
        have hq2 := hq1.like (Like.ask (c.setS env) (!endsP (l.take k)) 3 (s.pos.line, s.pos.col)) (Nat.le_refl _)
        have hcs := ask_cases hb' (!endsP (l.take k)) (show (3 : Int) ≠ 0 by decide) s.pos
        generalize (c.setS env).ask (!endsP (l.take k)) 3 (s.pos.line, s.pos.col) = c2 at ha hq2 hcs
        obtain ⟨c3, g1, g2⟩ := hS s hxm c2 hq2
        unfold St0.agg at g1
        have hwk : IntKind.wrap .i64 ((k : Int) + 1) = ((k + 1 : Nat) : Int) := by rw [wrap64 (by omega) (by omega)]; omega
        have hnew : (∃ env', c3 = c.setS env' ∧ env'.length ≤ c.seen.length + (k + 1) ∧ A = blockP c.p f.ret c.inn env' (endsP (l.take (k + 1))) (l.drop (k + 1))) ∨ ∃ d sn, A = .error d ∧ d.what ≠ 0 ∧ c3 = (c.setD d).setS sn := by
          rcases hcs with ⟨v1, v2⟩ | ⟨v1, v2, v3⟩
          · subst v2
            rw [v1, must_t] at h4
            have hef : endsP (l.take k) = false := by simpa using v1
            cases hst : stmtP c.p f.ret c.inn env s with
            | ok env' =>
              rw [hst, andT_ok] at h4
              refine .inl ⟨env', (g2.2 hb').1 env' hst, by have := stmtP_len s env' hst; omega, ?_⟩
              rw [hts, ends_snoc, hef, Bool.false_or]; exact h4
            | error d =>
              rw [hst, andT_err] at h4
              obtain ⟨w1, sn, w2, _⟩ := (g2.2 hb').2 d hst
              exact .inr ⟨d, sn, h4, w1, w2⟩
          · rw [v1, must_f] at h4
            obtain ⟨sn, w1, _⟩ := g2.1 v3
            exact .inr ⟨_, sn, h4, show (3 : Int) ≠ 0 by decide, by rw [w1, v2]; rfl⟩
        clear hcs g2 hq2 h4 hsp htk hts hd1
        simp (maxSteps := 4000000) (disch := first | (intros; contradiction) | omega) only [go_sem, hll, hlt, hbd, hk0, hkle, hmt, hen, hr1, ha, g1, hwk]
        exact ih (k + 1, c3) _ ⟨by omega, hnew⟩ (by omega) (by simp (maxSteps := 4000000) (disch := first | (intros; contradiction) | omega) only [go_sem] <;> rfl)
      · have hlt : ¬ (k : Int) < (l.length : Int) := by omega
        rw [List.drop_eq_nil_of_le (by omega)] at h4
        simp only [blockP] at h4
        refine ⟨c, ?_, (fun _ => rfl), fun _ => ⟨fun _ _ => rfl, fun d hd => by (rw [hA, h4] at hd; cases hd)⟩⟩
        have hbk2 : (c.setS env).setS c.seen = c := rfl
        rw [hbk2] at hbk
        simp (maxSteps := 4000000) (disch := first | (intros; contradiction) | omega) only [go_sem, hll, hlt, hbk]
        done
    · have hb' : ((c.setD d).setS sn).bad = true := setD_bad c d2
      rw [hb'] at hbd
      have hbk2 : ((c.setD d).setS sn).setS c.seen = c.setD d := rfl
      rw [hbk2] at hbk
      refine ⟨c.setD d, ?_, (fun h => by rw [hb] at h; cases h), fun _ => ⟨fun e he => by (rw [hA, d1] at he; cases he), fun d' hd' => by (rw [hA, d1] at hd'; cases hd'; exact ⟨d2, rfl⟩)⟩⟩
      by_cases hkl : (k : Int) < (l.length : Int)
      · simp (maxSteps := 4000000) (disch := first | (intros; contradiction) | omega) only [go_sem, hll, hkl, hbd, hbk]
        done
      · simp (maxSteps := 4000000) (disch := first | (intros; contradiction) | omega) only [go_sem, hll, hkl, hbd, hbk]
        done
/-- Any block. -/
theorem cblocks_e (hx : T0 ext) {f : Fn0} : ∀ (m : Nat) (l : List St0), sizL l ≤ m → okSs l → ∀ c, OkQ c f (sizL l) → BlockC ext c f l := by
  intro m
  induction m using Nat.strongRecOn with
  | ind m ih =>
    intro l hm hok c hq
    refine cblock_e hx hq fun s hs c hq => ?_
    have hss := sizL_mem hs
    have hse := sizS_eq s
    have hos := okSs_mem hok hs
    cases hb : c.bad with
    | true =>
      refine ⟨c, ?_, relS_bad hb⟩
      have hb1 := cbad_e hx c
      rw [hb] at hb1
      unfold St0.agg
      rw [G_body hx.clear rfl Try.func68 rfl Try.results68 hv_68 rfl]
      simp (maxSteps := 4000000) (disch := first | (intros; contradiction) | omega) only [go_sem, hb1]
      done
    | false =>
    obtain ⟨k, t, n, es, b, e, at_⟩ := s
    obtain ⟨o1, o2, o3, o4, o5⟩ := hos
    simp only [St0.e, St0.body, St0.els] at hse
    have hB : ∀ c, OkQ c f (sizL b) → BlockC ext c f b := ih (sizL b) (by omega) b (Nat.le_refl _) o4
    have hE : ∀ c, OkQ c f (sizL e) → BlockC ext c f e := ih (sizL e) (by omega) e (Nat.le_refl _) o5
    by_cases k1 : k = 1
    · subst k1
      obtain ⟨x, rfl⟩ := len_one (o1.1 (by omega))
      exact cstmt1_e hx hq o2.1 hb
    by_cases k2 : k = 2
    · subst k2
      obtain ⟨x, rfl⟩ := len_one (o1.1 (by omega))
      exact cstmt2_e hx hq o2.1 hb
    by_cases k3 : k = 3
    · subst k3
      obtain ⟨x, y, rfl⟩ := len_two (o1.2 rfl)
      exact cstmt3_e hx hq o2.1 o2.2.1 hb
    by_cases k4 : k = 4
    · subst k4
      obtain ⟨x, rfl⟩ := len_one (o1.1 (by omega))
      exact cstmt4_e hx hq o2.1 hb hB hE
    by_cases k5 : k = 5
    · subst k5
      obtain ⟨x, rfl⟩ := len_one (o1.1 (by omega))
      have := o3 rfl
      subst this
      exact cstmt5_e hx hq o2.1 hb hB hE
    exact cstmtp_e hx hb ⟨k1, k2, k3, k4, k5⟩ (cplain_e hx hq hb o1 o2 ⟨k1, k2, k3, k4, k5⟩)
end Go.Proofs.Ythfollapianblaa
