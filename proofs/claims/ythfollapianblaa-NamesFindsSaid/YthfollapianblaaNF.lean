/- The program's checker of names: other statements; The program's checker of names: loops, what is plain, blocks; The program's checker of names: blocks. Conditions: none. -/
import Derived.Test.YthfollapianblaaNE
set_option linter.unusedSimpArgs false
set_option linter.unusedVariables false
namespace Go.Proofs.Ythfollapianblaa
open Go Go.Ab
variable {ext : Sem'}
theorem fit_cases (p : Pr0) (env : List Fl0) (t : Tp) (x : Ex0) : (∃ d, andT (exprP p env x) (fun u => mustP (fitsP t u) 7 x.pos (Except.ok () : Except Dg Unit)) = .error d ∧ ∀ k : Except Dg (List Fl0), fitK p env t x k = .error d) ∨ (andT (exprP p env x) (fun u => mustP (fitsP t u) 7 x.pos (Except.ok () : Except Dg Unit)) = .ok () ∧ ∀ k : Except Dg (List Fl0), fitK p env t x k = k) := by
  unfold fitK
  cases exprP p env x with
  | error d => exact .inl ⟨d, rfl, fun _ => rfl⟩
  | ok u =>
    simp only [andT_ok]
    cases fitsP t u with
    | true => exact .inr ⟨rfl, fun _ => rfl⟩
    | false => exact .inl ⟨_, rfl, fun _ => rfl⟩
theorem num_cases (p : Pr0) (env : List Fl0) (x : Ex0) : (∃ d, andT (exprP p env x) (fun u => mustP (!u.ptr) 7 x.pos (Except.ok () : Except Dg Unit)) = .error d ∧ ∀ k : Except Dg (List Fl0), numK p env x k = .error d) ∨ (andT (exprP p env x) (fun u => mustP (!u.ptr) 7 x.pos (Except.ok () : Except Dg Unit)) = .ok () ∧ ∀ k : Except Dg (List Fl0), numK p env x k = k) := by
  unfold numK
  cases exprP p env x with
  | error d => exact .inl ⟨d, rfl, fun _ => rfl⟩
  | ok u =>
    simp only [andT_ok]
    cases u.ptr with
    | false => exact .inr ⟨rfl, fun _ => rfl⟩
    | true => exact .inl ⟨_, rfl, fun _ => rfl⟩
def BlockN (ext : Sem') (k : Nk) (l : List St0) : Prop := Goes ext 66 [.d (.sl (l.map St0.row))] k (andT (blockP k.p k.ret k.deep k.env false l) fun _ => .ok k.env)
set_option maxHeartbeats 4000000 in
theorem nstmt2_e (hx : T0 ext) {k : Nk} {t : Tp} {n : Str} {x : Ex0} {b l : List St0} {at_ : Po} (hq : NkQ k (sizS (.mk 2 t n [x] b l at_))) (hox : okE x) : StmtN ext k (.mk 2 t n [x] b l at_) := by
  have hsz : 1 + cntE x + sizL b + sizL l ≤ sizS (.mk 2 t n [x] b l at_) := by simp only [sizS, cntEs]; omega
  have hsn := hq.sn
  have hi0 := hq.lo
  have hi1 := hq.hi
  have hP : stmtP k.p k.ret k.deep k.env (.mk 2 t n [x] b l at_) = gotP (lookP k.env n) at_ fun u => fitK k.p k.env u x (.ok k.env) := by
    simp only [stmtP]; unfold stmtK; simp only [Int.reduceEq, if_false, if_true, or_self, oneK_one]
  unfold StmtN
  simp only [St0.kind, St0.t, St0.name, St0.e, St0.body, St0.els, St0.pos]
  rw [one_row]
  have hex := nexpr_e hx k hq.p (cntE x) x (Nat.le_refl _) (by omega) hox
  cases hlk : lookP k.env n with
  | none =>
    have hl := nlook_none hx k n hlk at_.line at_.col
    rw [hlk, got_none] at hP
    refine goes_err (k' := k) hP ?_
    rw [G_body hx.clear rfl Try.func73 rfl Try.results73 hv_73 rfl]
    simp (maxSteps := 4000000) (disch := first | (intros; contradiction) | omega) only [go_sem, hl]
    done
  | some u =>
    have hl := nlook_some hx k n hlk at_.line at_.col
    rw [hlk, got_some] at hP
    have hfit := nfit_e hx k u x hex
    rcases fit_cases k.p k.env u x with ⟨d, r1, r2⟩ | ⟨r1, r2⟩
    · rw [r1, outU_err] at hfit
      rw [r2] at hP
      refine goes_err (k' := k) hP ?_
      rw [G_body hx.clear rfl Try.func73 rfl Try.results73 hv_73 rfl]
      simp (maxSteps := 4000000) (disch := first | (intros; contradiction) | omega) only [go_sem, hl, hfit]
      done
    · rw [r1, outU_ok] at hfit
      rw [r2] at hP
      refine goes_ok (k' := k) hP ?_ (LikeN.refl k) rfl hq.nd
      rw [G_body hx.clear rfl Try.func73 rfl Try.results73 hv_73 rfl]
      simp (maxSteps := 4000000) (disch := first | (intros; contradiction) | omega) only [go_sem, hl, hfit]
      done
set_option maxHeartbeats 4000000 in
theorem nstmt3_e (hx : T0 ext) {k : Nk} {t : Tp} {n : Str} {x y : Ex0} {b l : List St0} {at_ : Po} (hq : NkQ k (sizS (.mk 3 t n [x, y] b l at_))) (hox : okE x) (hoy : okE y) : StmtN ext k (.mk 3 t n [x, y] b l at_) := by
  have hsz : 1 + cntE x + cntE y + sizL b + sizL l ≤ sizS (.mk 3 t n [x, y] b l at_) := by simp only [sizS, cntEs]; omega
  have hsn := hq.sn
  have hi0 := hq.lo
  have hi1 := hq.hi
  have hP : stmtP k.p k.ret k.deep k.env (.mk 3 t n [x, y] b l at_) = memK k.p (exprP k.p k.env x) n x.pos at_ fun u => fitK k.p k.env u y (.ok k.env) := by
    simp only [stmtP]; unfold stmtK; simp only [Int.reduceEq, if_false, if_true, or_self, twoK_two]
  unfold StmtN
  simp only [St0.kind, St0.t, St0.name, St0.e, St0.body, St0.els, St0.pos]
  rw [two_row]
  have hex := nexpr_e hx k hq.p (cntE x) x (Nat.le_refl _) (by omega) hox
  have hey := nexpr_e hx k hq.p (cntE y) y (Nat.le_refl _) (by omega) hoy
  have hmb := nmember_e hx k hq.p x n x.pos at_ hex
  have hcs : (∃ d, memK k.p (exprP k.p k.env x) n x.pos at_ Except.ok = .error d ∧ ∀ g : Tp → Except Dg (List Fl0), memK k.p (exprP k.p k.env x) n x.pos at_ g = .error d) ∨ ∃ u, memK k.p (exprP k.p k.env x) n x.pos at_ Except.ok = .ok u ∧ ∀ g : Tp → Except Dg (List Fl0), memK k.p (exprP k.p k.env x) n x.pos at_ g = g u := by
    unfold memK
    cases exprP k.p k.env x with
    | error d => exact .inl ⟨d, rfl, fun _ => rfl⟩
    | ok v =>
      simp only [andT_ok]
      cases pointsP v with
      | false => exact .inl ⟨_, rfl, fun _ => rfl⟩
      | true =>
        simp only [must_t]
        cases fieldP k.p v.to n with
        | none => exact .inl ⟨_, rfl, fun _ => rfl⟩
        | some iu => exact .inr ⟨iu.2, rfl, fun _ => rfl⟩
  rcases hcs with ⟨d, r1, r2⟩ | ⟨u, r1, r2⟩
  · rw [r1, outT_err] at hmb
    rw [r2] at hP
    refine goes_err (k' := k) hP ?_
    rw [G_body hx.clear rfl Try.func73 rfl Try.results73 hv_73 rfl]
    simp (maxSteps := 4000000) (disch := first | (intros; contradiction) | omega) only [go_sem, hmb]
    done
  · rw [r1, outT_ok] at hmb
    rw [r2] at hP
    have hfit := nfit_e hx k u y hey
    rcases fit_cases k.p k.env u y with ⟨d, v1, v2⟩ | ⟨v1, v2⟩
    · rw [v1, outU_err] at hfit
      rw [v2] at hP
      refine goes_err (k' := k) hP ?_
      rw [G_body hx.clear rfl Try.func73 rfl Try.results73 hv_73 rfl]
      simp (maxSteps := 4000000) (disch := first | (intros; contradiction) | omega) only [go_sem, hmb, hfit]
      done
    · rw [v1, outU_ok] at hfit
      rw [v2] at hP
      refine goes_ok (k' := k) hP ?_ (LikeN.refl k) rfl hq.nd
      rw [G_body hx.clear rfl Try.func73 rfl Try.results73 hv_73 rfl]
      simp (maxSteps := 4000000) (disch := first | (intros; contradiction) | omega) only [go_sem, hmb, hfit]
      done
set_option maxHeartbeats 4000000 in
theorem nstmt8_e (hx : T0 ext) {k : Nk} {t : Tp} {n : Str} {x : Ex0} {b l : List St0} {at_ : Po} (hq : NkQ k (sizS (.mk 8 t n [x] b l at_))) (hox : okE x) : StmtN ext k (.mk 8 t n [x] b l at_) := by
  have hsz : 1 + cntE x + sizL b + sizL l ≤ sizS (.mk 8 t n [x] b l at_) := by simp only [sizS, cntEs]; omega
  have hsn := hq.sn
  have hi0 := hq.lo
  have hi1 := hq.hi
  have hP : stmtP k.p k.ret k.deep k.env (.mk 8 t n [x] b l at_) = fitK k.p k.env k.ret x (.ok k.env) := by
    simp only [stmtP]; unfold stmtK; simp only [Int.reduceEq, if_false, if_true, or_self, oneK_one]
  unfold StmtN
  simp only [St0.kind, St0.t, St0.name, St0.e, St0.body, St0.els, St0.pos]
  rw [one_row]
  have hex := nexpr_e hx k hq.p (cntE x) x (Nat.le_refl _) (by omega) hox
  have hfit := nfit_e hx k k.ret x hex
  rcases fit_cases k.p k.env k.ret x with ⟨d, r1, r2⟩ | ⟨r1, r2⟩
  · rw [r1, outU_err] at hfit
    rw [r2] at hP
    refine goes_err (k' := k) hP ?_
    rw [G_body hx.clear rfl Try.func73 rfl Try.results73 hv_73 rfl]
    simp (maxSteps := 4000000) (disch := first | (intros; contradiction) | omega) only [go_sem, hfit]
    done
  · rw [r1, outU_ok] at hfit
    rw [r2] at hP
    refine goes_ok (k' := k) hP ?_ (LikeN.refl k) rfl hq.nd
    rw [G_body hx.clear rfl Try.func73 rfl Try.results73 hv_73 rfl]
    simp (maxSteps := 4000000) (disch := first | (intros; contradiction) | omega) only [go_sem, hfit]
    done
set_option maxHeartbeats 4000000 in
theorem nstmt10_e (hx : T0 ext) {k : Nk} {t : Tp} {n : Str} {x : Ex0} {b l : List St0} {at_ : Po} (hq : NkQ k (sizS (.mk 10 t n [x] b l at_))) (hox : okE x) : StmtN ext k (.mk 10 t n [x] b l at_) := by
  have hsz : 1 + cntE x + sizL b + sizL l ≤ sizS (.mk 10 t n [x] b l at_) := by simp only [sizS, cntEs]; omega
  have hsn := hq.sn
  have hi0 := hq.lo
  have hi1 := hq.hi
  have hP : stmtP k.p k.ret k.deep k.env (.mk 10 t n [x] b l at_) = numK k.p k.env x (.ok k.env) := by
    simp only [stmtP]; unfold stmtK; simp only [Int.reduceEq, if_false, if_true, or_self, oneK_one]
  unfold StmtN
  simp only [St0.kind, St0.t, St0.name, St0.e, St0.body, St0.els, St0.pos]
  rw [one_row]
  have hex := nexpr_e hx k hq.p (cntE x) x (Nat.le_refl _) (by omega) hox
  have hnm := nnumber_e hx k x x.pos hex
  rcases num_cases k.p k.env x with ⟨d, r1, r2⟩ | ⟨r1, r2⟩
  · rw [r1, outU_err] at hnm
    rw [r2] at hP
    refine goes_err (k' := k) hP ?_
    rw [G_body hx.clear rfl Try.func73 rfl Try.results73 hv_73 rfl]
    simp (maxSteps := 4000000) (disch := first | (intros; contradiction) | omega) only [go_sem, hnm]
    done
  · rw [r1, outU_ok] at hnm
    rw [r2] at hP
    refine goes_ok (k' := k) hP ?_ (LikeN.refl k) rfl hq.nd
    rw [G_body hx.clear rfl Try.func73 rfl Try.results73 hv_73 rfl]
    simp (maxSteps := 4000000) (disch := first | (intros; contradiction) | omega) only [go_sem, hnm]
    done
set_option maxHeartbeats 4000000 in
theorem nstmt11_e (hx : T0 ext) {k : Nk} {t : Tp} {n : Str} {x : Ex0} {b l : List St0} {at_ : Po} (hq : NkQ k (sizS (.mk 11 t n [x] b l at_))) (hox : okE x) : StmtN ext k (.mk 11 t n [x] b l at_) := by
  have hsz : 1 + cntE x + sizL b + sizL l ≤ sizS (.mk 11 t n [x] b l at_) := by simp only [sizS, cntEs]; omega
  have hsn := hq.sn
  have hi0 := hq.lo
  have hi1 := hq.hi
  have hP : stmtP k.p k.ret k.deep k.env (.mk 11 t n [x] b l at_) = andT (exprP k.p k.env x) fun _ => .ok k.env := by
    simp only [stmtP]; unfold stmtK; simp only [Int.reduceEq, if_false, if_true, or_self, oneK_one]
  unfold StmtN
  simp only [St0.kind, St0.t, St0.name, St0.e, St0.body, St0.els, St0.pos]
  rw [one_row]
  have hex := nexpr_e hx k hq.p (cntE x) x (Nat.le_refl _) (by omega) hox
  unfold ExprN at hex
  cases hX : exprP k.p k.env x with
  | error d =>
    rw [hX, outT_err] at hex
    rw [hX, andT_err] at hP
    refine goes_err (k' := k) hP ?_
    rw [G_body hx.clear rfl Try.func73 rfl Try.results73 hv_73 rfl]
    simp (maxSteps := 4000000) (disch := first | (intros; contradiction) | omega) only [go_sem, hex]
    done
  | ok u =>
    rw [hX, outT_ok] at hex
    rw [hX, andT_ok] at hP
    refine goes_ok (k' := k) hP ?_ (LikeN.refl k) rfl hq.nd
    rw [G_body hx.clear rfl Try.func73 rfl Try.results73 hv_73 rfl]
    simp (maxSteps := 4000000) (disch := first | (intros; contradiction) | omega) only [go_sem, hex]
    done
theorem NkQ.like {k k' : Nk} {m m' : Nat} (h : NkQ k m) (g : LikeN k k') (he : k'.env = k.env) (hm : m' ≤ m) : NkQ k' m' := by
  have h1 := h.sn
  have h2 := h.lo
  have h3 := h.hi
  exact ⟨by rw [g.p]; exact h.p, by rw [he]; exact h.nd, by rw [he]; omega, by rw [g.deep]; omega, by rw [g.deep]; omega⟩
set_option maxHeartbeats 4000000 in
theorem nstmt4_e (hx : T0 ext) {k : Nk} {t : Tp} {n : Str} {x : Ex0} {b l : List St0} {at_ : Po} (hq : NkQ k (sizS (.mk 4 t n [x] b l at_))) (hox : okE x) (hB : ∀ k, NkQ k (sizL b) → BlockN ext k b) (hL : ∀ k, NkQ k (sizL l) → BlockN ext k l) : StmtN ext k (.mk 4 t n [x] b l at_) := by
  have hsz : 1 + cntE x + sizL b + sizL l ≤ sizS (.mk 4 t n [x] b l at_) := by simp only [sizS, cntEs]; omega
  have hsn := hq.sn
  have hi0 := hq.lo
  have hi1 := hq.hi
  have hP : stmtP k.p k.ret k.deep k.env (.mk 4 t n [x] b l at_) = numK k.p k.env x (andT (blockP k.p k.ret k.deep k.env false b) fun _ => andT (blockP k.p k.ret k.deep k.env false l) fun _ => .ok k.env) := by
    simp only [stmtP]; unfold stmtK; simp only [Int.reduceEq, if_false, if_true, or_self, oneK_one]
  unfold StmtN
  simp only [St0.kind, St0.t, St0.name, St0.e, St0.body, St0.els, St0.pos]
  rw [one_row]
  have hex := nexpr_e hx k hq.p (cntE x) x (Nat.le_refl _) (by omega) hox
  have hnm := nnumber_e hx k x x.pos hex
  rcases num_cases k.p k.env x with ⟨d, r1, r2⟩ | ⟨r1, r2⟩
  · rw [r1, outU_err] at hnm
    rw [r2] at hP
    refine goes_err (k' := k) hP ?_
    rw [G_body hx.clear rfl Try.func73 rfl Try.results73 hv_73 rfl]
    simp (maxSteps := 4000000) (disch := first | (intros; contradiction) | omega) only [go_sem, hnm]
    done
  · rw [r1, outU_ok] at hnm
    rw [r2] at hP
    obtain ⟨b1, b2⟩ := hB k (hq.like (LikeN.refl k) rfl (by omega))
    cases hbl : blockP k.p k.ret k.deep k.env false b with
    | error d =>
      rw [hbl, andT_err] at hP b2
      obtain ⟨k', g⟩ := b2 d rfl
      refine goes_err (k' := k') hP ?_
      rw [G_body hx.clear rfl Try.func73 rfl Try.results73 hv_73 rfl]
      simp (maxSteps := 4000000) (disch := first | (intros; contradiction) | omega) only [go_sem, hnm, g]
      done
    | ok e1 =>
      rw [hbl, andT_ok] at hP b1
      obtain ⟨k', g, g1, g2, g3⟩ := b1 k.env rfl
      obtain ⟨c1, c2⟩ := hL k' (hq.like g1 g2 (by omega))
      rw [g1.p, g1.ret, g1.deep, g2] at c1 c2
      cases hbl2 : blockP k.p k.ret k.deep k.env false l with
      | error d =>
        rw [hbl2, andT_err] at hP c2
        obtain ⟨k2, q⟩ := c2 d rfl
        refine goes_err (k' := k2) hP ?_
        rw [G_body hx.clear rfl Try.func73 rfl Try.results73 hv_73 rfl]
        simp (maxSteps := 4000000) (disch := first | (intros; contradiction) | omega) only [go_sem, hnm, g, q]
        done
      | ok e2 =>
        rw [hbl2, andT_ok] at hP c1
        obtain ⟨k2, q, q1, q2, q3⟩ := c1 k.env rfl
        refine goes_ok (k' := k2) hP ?_ (g1.trans q1) q2 hq.nd
        rw [G_body hx.clear rfl Try.func73 rfl Try.results73 hv_73 rfl]
        simp (maxSteps := 4000000) (disch := first | (intros; contradiction) | omega) only [go_sem, hnm, g, q]
        done
end Go.Proofs.Ythfollapianblaa
namespace Go.Proofs.Ythfollapianblaa
open Go Go.Ab
variable {ext : Sem'}
section
variable {P : List Fl0 → Prop}
theorem mustP_P {b : Bool} {f : Int} {p : Po} {k : Except Dg (List Fl0)} (h : ∀ env, k = .ok env → P env) : ∀ env, mustP b f p k = .ok env → P env := by
  intro env he
  cases b with
  | true => exact h env he
  | false => cases he
theorem andT_P {α : Type} {x : Except Dg α} {k : α → Except Dg (List Fl0)} (h : ∀ a env, k a = .ok env → P env) : ∀ env, andT x k = .ok env → P env := by
  intro env he
  cases x with
  | ok a => exact h a env he
  | error d => cases he
theorem gotP_P {α : Type} {x : Option α} {p : Po} {k : α → Except Dg (List Fl0)} (h : ∀ a env, k a = .ok env → P env) : ∀ env, gotP x p k = .ok env → P env := by
  intro env he
  cases x with
  | some a => exact h a env he
  | none => cases he
theorem oneK_P {α : Type} {l : List α} {g : α → Except Dg (List Fl0)} {z : List Fl0} (hz : P z) (h : ∀ x env, g x = .ok env → P env) : ∀ env, oneK l g (.ok z) = .ok env → P env := by
  intro env he
  unfold oneK at he
  split at he
  · exact h _ env he
  · cases he; exact hz
theorem twoK_P {α : Type} {l : List α} {g : α → α → Except Dg (List Fl0)} {z : List Fl0} (hz : P z) (h : ∀ x y env, g x y = .ok env → P env) : ∀ env, twoK l g (.ok z) = .ok env → P env := by
  intro env he
  unfold twoK at he
  split at he
  · exact h _ _ env he
  · cases he; exact hz
end
theorem stmtP_env {p : Pr0} {ret : Tp} {inn : Int} {env : List Fl0} (s : St0) : ∀ env', stmtP p ret inn env s = .ok env' → ∃ post, env' = env ++ post ∧ post.length ≤ 1 := by
  obtain ⟨k, t, n, es, b, l, at_⟩ := s
  have hz : ∃ post, env = env ++ post ∧ post.length ≤ 1 := ⟨[], by simp, by simp⟩
  have hsame : ∀ e : List Fl0, (Except.ok env : Except Dg (List Fl0)) = .ok e → ∃ post, e = env ++ post ∧ post.length ≤ 1 := fun e he => by cases he; exact hz
  simp only [stmtP]
  unfold stmtK fitK numK memK
  split
  · exact oneK_P hz fun x => mustP_P (andT_P fun u => mustP_P (mustP_P fun e he => by cases he; exact ⟨[_], rfl, by simp⟩))
  split
  · exact oneK_P hz fun x => gotP_P fun u => andT_P fun v => mustP_P hsame
  split
  · exact twoK_P hz fun x y => andT_P fun v => mustP_P (gotP_P fun w => andT_P fun u => mustP_P hsame)
  split
  · exact oneK_P hz fun x => andT_P fun v => mustP_P (andT_P fun _ => andT_P fun _ => hsame)
  split
  · exact oneK_P hz fun x => andT_P fun v => mustP_P (andT_P fun _ => hsame)
  split
  · exact mustP_P hsame
  split
  · exact oneK_P hz fun x => andT_P fun v => mustP_P hsame
  split
  · exact gotP_P fun u => mustP_P hsame
  split
  · exact oneK_P hz fun x => andT_P fun v => mustP_P hsame
  split
  · exact oneK_P hz fun x => andT_P fun v => hsame
  · exact hsame
def Nk.setDeep (k : Nk) (d : Int) : Nk := ⟨k.p, k.ret, d, k.env, k.e, k.junk⟩
theorem deep_fold (k : Nk) (d : Int) : AObj.cells [.stk 1 k.e k.env.length, .mp 2, .d (.sl (k.p.structs.map Sr0.row)), .d (.sl (k.p.funcs.map Fn0.row)), .d (.bool k.ret.ptr), .d (.str k.ret.to), .d (.int .i64 d)] = nkO 1 2 (k.setDeep d) := rfl
set_option maxHeartbeats 4000000 in
theorem nstmt5_e (hx : T0 ext) {k : Nk} {t : Tp} {n : Str} {x : Ex0} {b l : List St0} {at_ : Po} (hq : NkQ k (sizS (.mk 5 t n [x] b l at_))) (hox : okE x) (hB : ∀ k, NkQ k (sizL b) → BlockN ext k b) : StmtN ext k (.mk 5 t n [x] b l at_) := by
  have hsz : 1 + cntE x + sizL b + sizL l ≤ sizS (.mk 5 t n [x] b l at_) := by simp only [sizS, cntEs]; omega
  have hsn := hq.sn
  have hi0 := hq.lo
  have hi1 := hq.hi
  have hP : stmtP k.p k.ret k.deep k.env (.mk 5 t n [x] b l at_) = numK k.p k.env x (andT (blockP k.p k.ret (k.deep + 1) k.env false b) fun _ => .ok k.env) := by
    simp only [stmtP]; unfold stmtK; simp only [Int.reduceEq, if_false, if_true, oneK_one]
  unfold StmtN
  simp only [St0.kind, St0.t, St0.name, St0.e, St0.body, St0.els, St0.pos]
  rw [one_row]
  have hex := nexpr_e hx k hq.p (cntE x) x (Nat.le_refl _) (by omega) hox
  have hnm := nnumber_e hx k x x.pos hex
  rcases num_cases k.p k.env x with ⟨d, r1, r2⟩ | ⟨r1, r2⟩
  · rw [r1, outU_err] at hnm
    rw [r2] at hP
    refine goes_err (k' := k) hP ?_
    rw [G_body hx.clear rfl Try.func73 rfl Try.results73 hv_73 rfl]
    simp (maxSteps := 4000000) (disch := first | (intros; contradiction) | omega) only [go_sem, hnm]
    done
  · rw [r1, outU_ok] at hnm
    rw [r2] at hP
    have hw1 : IntKind.wrap .i64 (k.deep + 1) = k.deep + 1 := wrap64 (by omega) (by omega)
    have hf1 := deep_fold k (k.deep + 1)
    have hq1 : NkQ (k.setDeep (k.deep + 1)) (sizL b) := ⟨hq.p, hq.nd, by show k.env.length + sizL b ≤ 1000000; omega, by show 0 ≤ k.deep + 1; omega, by show k.deep + 1 + (sizL b : Int) ≤ 1000000; omega⟩
    obtain ⟨b1, b2⟩ := hB _ hq1
    have hbe : blockP (k.setDeep (k.deep + 1)).p (k.setDeep (k.deep + 1)).ret (k.setDeep (k.deep + 1)).deep (k.setDeep (k.deep + 1)).env false b = blockP k.p k.ret (k.deep + 1) k.env false b := rfl
    rw [hbe] at b1 b2
    cases hbl : blockP k.p k.ret (k.deep + 1) k.env false b with
    | error d =>
      rw [hbl, andT_err] at hP b2
      obtain ⟨k', g⟩ := b2 d rfl
      change G ext _ _ [nkO 1 2 (k.setDeep (k.deep + 1)), nkS k, nkM k] = _ at g
      refine goes_err (k' := k') hP ?_
      have hlp : G ext 87 [.ptr 0 0, .agg [.d (.int .i64 5), .d (.bool t.ptr), .d (.str t.to), .d (.str n), .d (.sl [[.int .i64 x.kind, .int .i64 x.n, .str x.name, .str x.op, .sl (x.kids.map Ex0.row), .int .i64 x.pos.line, .int .i64 x.pos.col]]), .d (.sl (b.map St0.row)), .d (.sl (l.map St0.row)), .d (.int .i64 at_.line), .d (.int .i64 at_.col)]] [nkO 1 2 k, nkS k, nkM k] = some (.pan (.iface 31 (.agg [.d (.int .i64 d.stage), .d (.int .i64 d.what), .d (.int .i64 d.pos.1), .d (.int .i64 d.pos.2)])), [nkO 1 2 k', nkS k', nkM k']) := by
        rw [G_body hx.clear rfl Try.func87 rfl Try.results87 hv_87 rfl]
        simp (maxSteps := 4000000) (disch := first | (intros; contradiction) | omega) only [go_sem, hw1, hf1, g]
        done
      rw [G_body hx.clear rfl Try.func73 rfl Try.results73 hv_73 rfl]
      simp (maxSteps := 4000000) (disch := first | (intros; contradiction) | omega) only [go_sem, hnm, hlp]
      done
    | ok e1 =>
      rw [hbl, andT_ok] at hP b1
      obtain ⟨k', g, g1, g2, g3⟩ := b1 _ rfl
      change G ext _ _ [nkO 1 2 (k.setDeep (k.deep + 1)), nkS k, nkM k] = _ at g
      have hdp : k'.deep = k.deep + 1 := g1.deep
      have hw2 : IntKind.wrap .i64 (k'.deep - 1) = k'.deep - 1 := wrap64 (by omega) (by omega)
      have hf2 := deep_fold k' (k'.deep - 1)
      refine goes_ok (k' := k'.setDeep (k'.deep - 1)) hP ?_ ⟨g1.p, g1.ret, by show k'.deep - 1 = k.deep; omega⟩ g2 hq.nd
      have hlp : G ext 87 [.ptr 0 0, .agg [.d (.int .i64 5), .d (.bool t.ptr), .d (.str t.to), .d (.str n), .d (.sl [[.int .i64 x.kind, .int .i64 x.n, .str x.name, .str x.op, .sl (x.kids.map Ex0.row), .int .i64 x.pos.line, .int .i64 x.pos.col]]), .d (.sl (b.map St0.row)), .d (.sl (l.map St0.row)), .d (.int .i64 at_.line), .d (.int .i64 at_.col)]] [nkO 1 2 k, nkS k, nkM k] = some (.ret (.tuple []), [nkO 1 2 (k'.setDeep (k'.deep - 1)), nkS k', nkM k']) := by
        rw [G_body hx.clear rfl Try.func87 rfl Try.results87 hv_87 rfl]
        simp (maxSteps := 4000000) (disch := first | (intros; contradiction) | omega) only [go_sem, hw1, hf1, g, hw2, hf2]
        done
      show G ext _ _ _ = some (.ret (.tuple []), [nkO 1 2 (k'.setDeep (k'.deep - 1)), nkS k', nkM k'])
      rw [G_body hx.clear rfl Try.func73 rfl Try.results73 hv_73 rfl]
      simp (maxSteps := 4000000) (disch := first | (intros; contradiction) | omega) only [go_sem, hnm, hlp]
      done
set_option maxHeartbeats 4000000 in
theorem nstmtp_e (hx : T0 ext) {k : Nk} {kd : Int} {t : Tp} {n : Str} {es : List Ex0} {b l : List St0} {at_ : Po} (hq : NkQ k (sizS (.mk kd t n es b l at_))) (h : kd ≠ 1 ∧ kd ≠ 2 ∧ kd ≠ 3 ∧ kd ≠ 4 ∧ kd ≠ 5 ∧ kd ≠ 8 ∧ kd ≠ 10 ∧ kd ≠ 11) : StmtN ext k (.mk kd t n es b l at_) := by
  obtain ⟨k1, k2, k3, k4, k5, k8, k10, k11⟩ := h
  have hi0 := hq.lo
  have hP : stmtP k.p k.ret k.deep k.env (.mk kd t n es b l at_) = stmtK k.p k.ret k.deep k.env kd t n es at_ (fun i => blockP k.p k.ret i k.env false b) (blockP k.p k.ret k.deep k.env false l) := by simp only [stmtP]
  unfold stmtK at hP
  rw [if_neg k1, if_neg k2, if_neg k3, if_neg k4, if_neg k5, if_neg k8, if_neg k10, if_neg k11] at hP
  unfold StmtN
  simp only [St0.kind, St0.t, St0.name, St0.e, St0.body, St0.els, St0.pos]
  by_cases k67 : kd = 6 ∨ kd = 7
  · rw [if_pos k67] at hP
    by_cases hd : 0 < k.deep
    · rw [decide_eq_true hd, must_t] at hP
      have hm := nmust_t hx 3 at_.line at_.col
      refine goes_ok (k' := k) hP ?_ (LikeN.refl k) rfl hq.nd
      rw [G_body hx.clear rfl Try.func73 rfl Try.results73 hv_73 rfl]
      rcases k67 with rfl | rfl
      · simp (maxSteps := 4000000) (disch := first | (intros; contradiction) | omega) only [go_sem, hd, hm]
        done
      · simp (maxSteps := 4000000) (disch := first | (intros; contradiction) | omega) only [go_sem, hd, hm]
        done
    · rw [decide_eq_false hd, must_f] at hP
      have hm := nmust_f hx 3 at_.line at_.col
      refine goes_err (k' := k) hP ?_
      rw [G_body hx.clear rfl Try.func73 rfl Try.results73 hv_73 rfl]
      rcases k67 with rfl | rfl
      · simp (maxSteps := 4000000) (disch := first | (intros; contradiction) | omega) only [go_sem, hd, hm]
        done
      · simp (maxSteps := 4000000) (disch := first | (intros; contradiction) | omega) only [go_sem, hd, hm]
        done
  rw [if_neg k67] at hP
  have k6 : ¬ kd = 6 := fun h => k67 (.inl h)
  have k7 : ¬ kd = 7 := fun h => k67 (.inr h)
  by_cases k9 : kd = 9
  · subst k9
    rw [if_pos rfl] at hP
    cases hlk : lookP k.env n with
    | none =>
      have hl := nlook_none hx k n hlk at_.line at_.col
      rw [hlk, got_none] at hP
      refine goes_err (k' := k) hP ?_
      rw [G_body hx.clear rfl Try.func73 rfl Try.results73 hv_73 rfl]
      simp (maxSteps := 4000000) (disch := first | (intros; contradiction) | omega) only [go_sem, hl]
      done
    | some u =>
      have hl := nlook_some hx k n hlk at_.line at_.col
      rw [hlk, got_some] at hP
      cases hu : u.ptr with
      | true =>
        rw [hu, must_t] at hP
        have hm := nmust_t hx 7 at_.line at_.col
        refine goes_ok (k' := k) hP ?_ (LikeN.refl k) rfl hq.nd
        rw [G_body hx.clear rfl Try.func73 rfl Try.results73 hv_73 rfl]
        simp (maxSteps := 4000000) (disch := first | (intros; contradiction) | omega) only [go_sem, hl, hu, hm]
        done
      | false =>
        rw [hu, must_f] at hP
        have hm := nmust_f hx 7 at_.line at_.col
        refine goes_err (k' := k) hP ?_
        rw [G_body hx.clear rfl Try.func73 rfl Try.results73 hv_73 rfl]
        simp (maxSteps := 4000000) (disch := first | (intros; contradiction) | omega) only [go_sem, hl, hu, hm]
        done
  rw [if_neg k9] at hP
  refine goes_ok (k' := k) hP ?_ (LikeN.refl k) rfl hq.nd
  rw [G_body hx.clear rfl Try.func73 rfl Try.results73 hv_73 rfl]
  simp (maxSteps := 4000000) (disch := first | (intros; contradiction) | omega) only [go_sem, k1, k2, k3, k4, k5, k6, k7, k8, k9, k10, k11]
  done
end Go.Proofs.Ythfollapianblaa
namespace Go.Proofs.Ythfollapianblaa
open Go Go.Ab
variable {ext : Sem'}
/-- What comes out: an answer, or a panic with a diag. -/
def outX : Except Dg (List Fl0) → Out
  | .ok _ => .ret (.tuple [])
  | .error d => .pan (.iface 31 (.agg [.d (.int .i64 d.stage), .d (.int .i64 d.what), .d (.int .i64 d.pos.1), .d (.int .i64 d.pos.2)]))
theorem outX_ok (u : List Fl0) : outX (.ok u) = .ret (.tuple []) := rfl
theorem outX_err (d : Dg) : outX (.error d) = .pan (.iface 31 (.agg [.d (.int .i64 d.stage), .d (.int .i64 d.what), .d (.int .i64 d.pos.1), .d (.int .i64 d.pos.2)])) := rfl
/-- Does what is ahead end the list? -/
def prevO (l : List St0) : Nat → Bool
  | 0 => false
  | j + 1 => match l[j]? with
    | some s => overP s
    | none => false
set_option maxHeartbeats 8000000 in
theorem nblock_e (hx : T0 ext) {k : Nk} {l : List St0} (hq : NkQ k (sizL l)) (hS : ∀ s, s ∈ l → ∀ k, NkQ k (sizS s) → StmtN ext k s) : BlockN ext k l := by
  have hsn := hq.sn
  have hi0 := hq.lo
  have hi1 := hq.hi
  have hll : (l.map St0.row).length = l.length := List.length_map _
  have hlen := sizL_len l
  have main : ∃ k', G ext 66 [.ptr 0 0, .d (.sl (l.map St0.row))] [nkO 1 2 k, nkS k, nkM k] = some (outX (blockP k.p k.ret k.deep k.env false l), [nkO 1 2 k', nkS k', nkM k']) ∧ ((∃ e, blockP k.p k.ret k.deep k.env false l = .ok e) → LikeN k k' ∧ k'.env = k.env) := by
    generalize hA : blockP k.p k.ret k.deep k.env false l = A
    rw [G_body hx.clear rfl Try.func66 rfl Try.results66 hv_66 rfl]
    simp (maxSteps := 4000000) (disch := first | (intros; contradiction) | omega) only [go_sem]
    generalize hL : loopA _ _ _ = L
    apply range_upd hL (by simp (maxSteps := 4000000) (disch := first | (intros; contradiction) | omega) only [go_sem] <;> rfl) l St0.row (α := Nk) (fun rest j a => LikeN k a ∧ (∃ post, a.env = k.env ++ post ∧ post.length ≤ j) ∧ (a.env.map (·.name)).Nodup ∧ A = blockP k.p k.ret k.deep a.env (prevO l j) rest) (fun j _ => [(5, .any), (6, .any), (15, .d (.int .i64 j))]) (fun _ a => [(0, nkO 1 2 a), (1, nkS a), (2, nkM a)]) k (by simp (maxSteps := 4000000) (disch := first | (intros; contradiction) | omega) only [go_sem] <;> rfl) ⟨LikeN.refl k, ⟨[], by simp, by simp⟩, hq.nd, hA.symm⟩ ?_ ?_
    · rintro s rest j a ⟨h1, ⟨post, h2, h2l⟩, h3, h4⟩ hlt hr hss hj hrest next ih
      clear hL
      have hxm := List.mem_of_getElem? hss
      rw [St0.row_eq] at hr
      have hj0 : (0 : Int) ≤ (j : Int) := by omega
      have hwj : IntKind.wrap .i64 ((j : Int) + 1) = ((j + 1 : Nat) : Int) := by rw [wrap64 (by omega) (by omega)]; omega
      have htk := sizL_take l j (by omega)
      have hd1 : l.drop j = s :: rest := by
        rw [hrest, List.drop_eq_getElem_cons hj]
        congr 1
        rw [List.getElem?_eq_getElem hj] at hss
        exact Option.some.inj hss
      have hsp : sizL l = sizL (l.take j) + sizL (l.drop j) := by rw [← sizL_append, List.take_append_drop]
      rw [hd1] at hsp
      simp only [sizL] at hsp
      simp only [blockP] at h4
      have hel : a.env.length = k.env.length + post.length := by rw [h2, List.length_append]
      have hqa : NkQ a (sizS s) := ⟨by rw [h1.p]; exact hq.p, h3, by omega, by rw [h1.deep]; exact hi0, by rw [h1.deep]; omega⟩
      have hst := hS s hxm a hqa
      unfold StmtN at hst
      rw [h1.p, h1.ret, h1.deep] at hst
      have hprev : prevO l (j + 1) = overP s := by simp only [prevO, hss]
      have go : ∀ (R : RC), True := fun _ => trivial
      clear go
      cases hov : prevO l j with
      | true =>
        rw [hov, Bool.not_true, must_f] at h4
        have hm := nmust_f hx 3 s.pos.line s.pos.col
        subst h4
        refine ⟨a, ?_, fun h => by obtain ⟨e, h⟩ := h; cases h⟩
        rw [outX_err]
        cases j with
        | zero => cases hov
        | succ i =>
          have hq1 : l[i]? = some (l[i]'(by omega)) := List.getElem?_eq_getElem (by omega)
          have hov' : overP (l[i]'(by omega)) = true := by simpa only [prevO, hq1] using hov
          have hqm := List.mem_of_getElem? hq1
          have hr2 : (l.map St0.row)[i]? = some (St0.row (l[i]'(by omega))) := by rw [List.getElem?_map, hq1]; rfl
          generalize l[i]'(by omega) = q at hq1 hov' hqm hr2
          rw [St0.row_eq] at hr2
          have hqs := sizL_mem hqm
          have hqe := sizS_eq q
          have hov2 := over_e hx q (ends_e hx 1000000 q.body (by have := cntL_siz q.body; omega) (Nat.le_refl _)) (ends_e hx 1000000 q.els (by have := cntL_siz q.els; omega) (Nat.le_refl _))
          unfold St0.agg at hov2
          rw [hov'] at hov2
          have hne : ¬ ((i + 1 : Nat) : Int) = 0 := by omega
          have hwm : IntKind.wrap .i64 (((i + 1 : Nat) : Int) - 1) = (i : Int) := by rw [wrap64 (by omega) (by omega)]; omega
          have hi1' : (0 : Int) ≤ (i : Int) := by omega
          simp (maxSteps := 4000000) (disch := first | (intros; contradiction) | omega) only [go_sem, hlt, hj0, hr, hne, hwm, hi1', hr2, hov2, hm]
          done
      | false =>
        rw [hov, Bool.not_false, must_t] at h4
        have hm := nmust_t hx 3 s.pos.line s.pos.col
        cases hX : stmtP k.p k.ret k.deep a.env s with
        | error d =>
          rw [hX, andT_err] at h4
          subst h4
          obtain ⟨k', g⟩ := hst.2 d hX
          refine ⟨k', ?_, fun h => by obtain ⟨e, h⟩ := h; cases h⟩
          rw [outX_err]
          cases j with
          | zero =>
            simp only [Int.natCast_zero] at hlt hr
            simp (maxSteps := 4000000) (disch := first | (intros; contradiction) | omega) only [go_sem, hlt, hr, hm, g]
            done
          | succ i =>
            have hq1 : l[i]? = some (l[i]'(by omega)) := List.getElem?_eq_getElem (by omega)
            have hov' : overP (l[i]'(by omega)) = false := by simpa only [prevO, hq1] using hov
            have hqm := List.mem_of_getElem? hq1
            have hr2 : (l.map St0.row)[i]? = some (St0.row (l[i]'(by omega))) := by rw [List.getElem?_map, hq1]; rfl
            generalize l[i]'(by omega) = q at hq1 hov' hqm hr2
            rw [St0.row_eq] at hr2
            have hqs := sizL_mem hqm
            have hqe := sizS_eq q
            have hov2 := over_e hx q (ends_e hx 1000000 q.body (by have := cntL_siz q.body; omega) (Nat.le_refl _)) (ends_e hx 1000000 q.els (by have := cntL_siz q.els; omega) (Nat.le_refl _))
            unfold St0.agg at hov2
            rw [hov'] at hov2
            have hne : ¬ ((i + 1 : Nat) : Int) = 0 := by omega
            have hwm : IntKind.wrap .i64 (((i + 1 : Nat) : Int) - 1) = (i : Int) := by rw [wrap64 (by omega) (by omega)]; omega
            have hi1' : (0 : Int) ≤ (i : Int) := by omega
            simp (maxSteps := 4000000) (disch := first | (intros; contradiction) | omega) only [go_sem, hlt, hj0, hr, hne, hwm, hi1', hr2, hov2, hm, g]
            done
        | ok env' =>
          rw [hX, andT_ok] at h4
          obtain ⟨k2, g, g1, g2, g3⟩ := hst.1 env' hX
          obtain ⟨po, q1, q2⟩ := stmtP_env s env' hX
          have hnew : LikeN k k2 ∧ (∃ post, k2.env = k.env ++ post ∧ post.length ≤ j + 1) ∧ (k2.env.map (·.name)).Nodup ∧ A = blockP k.p k.ret k.deep k2.env (prevO l (j + 1)) rest := by
            refine ⟨h1.trans g1, ⟨post ++ po, by rw [g2, q1, h2, List.append_assoc], by rw [List.length_append]; omega⟩, by rw [g2]; exact g3, ?_⟩
            rw [hprev, g2]; exact h4
          clear h4 hst hprev
          cases j with
          | zero =>
            simp only [Int.natCast_zero] at hlt hr hwj
            simp (maxSteps := 4000000) (disch := first | (intros; contradiction) | omega) only [go_sem, hlt, hr, hm, g, hwj]
            exact ih k2 _ hnew (by simp (maxSteps := 4000000) (disch := first | (intros; contradiction) | omega) only [go_sem] <;> rfl)
          | succ i =>
            have hq1 : l[i]? = some (l[i]'(by omega)) := List.getElem?_eq_getElem (by omega)
            have hov' : overP (l[i]'(by omega)) = false := by simpa only [prevO, hq1] using hov
            have hqm := List.mem_of_getElem? hq1
            have hr2 : (l.map St0.row)[i]? = some (St0.row (l[i]'(by omega))) := by rw [List.getElem?_map, hq1]; rfl
            generalize l[i]'(by omega) = q at hq1 hov' hqm hr2
            rw [St0.row_eq] at hr2
            have hqs := sizL_mem hqm
            have hqe := sizS_eq q
            have hov2 := over_e hx q (ends_e hx 1000000 q.body (by have := cntL_siz q.body; omega) (Nat.le_refl _)) (ends_e hx 1000000 q.els (by have := cntL_siz q.els; omega) (Nat.le_refl _))
            unfold St0.agg at hov2
            rw [hov'] at hov2
            have hne : ¬ ((i + 1 : Nat) : Int) = 0 := by omega
            have hwm : IntKind.wrap .i64 (((i + 1 : Nat) : Int) - 1) = (i : Int) := by rw [wrap64 (by omega) (by omega)]; omega
            have hi1' : (0 : Int) ≤ (i : Int) := by omega
            simp (maxSteps := 4000000) (disch := first | (intros; contradiction) | omega) only [go_sem, hlt, hj0, hr, hne, hwm, hi1', hr2, hov2, hm, g, hwj]
            exact ih k2 _ hnew (by simp (maxSteps := 4000000) (disch := first | (intros; contradiction) | omega) only [go_sem] <;> rfl)
    · rintro j a ⟨h1, ⟨post, h2, h2l⟩, h3, h4⟩ hlt hj next
      clear hL
      simp only [blockP] at h4
      subst h4
      have hel : a.env.length = k.env.length + post.length := by rw [h2, List.length_append]
      have hbk := nback_e hx a k.env post h2 h3 (by omega)
      refine ⟨a.back k.env (post.map (·.name) ++ a.junk), ?_, fun _ => ⟨⟨h1.p, h1.ret, h1.deep⟩, rfl⟩⟩
      rw [outX_ok]
      generalize a.back k.env (post.map (·.name) ++ a.junk) = k2 at hbk
      simp (maxSteps := 4000000) (disch := first | (intros; contradiction) | omega) only [go_sem, hlt, hbk]
      done
  obtain ⟨k', g, g1⟩ := main
  cases hX : blockP k.p k.ret k.deep k.env false l with
  | error d =>
    rw [hX, outX_err] at g
    exact goes_err (k' := k') (by rw [hX]; rfl) g
  | ok e =>
    rw [hX, outX_ok] at g
    obtain ⟨g2, g3⟩ := g1 ⟨e, hX⟩
    exact goes_ok (k' := k') (env := k.env) (by rw [hX]; rfl) g g2 g3 hq.nd
/-- Any block. -/
theorem nblocks_e (hx : T0 ext) : ∀ (m : Nat) (l : List St0), sizL l ≤ m → okSs l → ∀ k, NkQ k (sizL l) → BlockN ext k l := by
  intro m
  induction m using Nat.strongRecOn with
  | ind m ih =>
    intro l hm hok k hq
    refine nblock_e hx hq fun s hs k hq => ?_
    have hss := sizL_mem hs
    have hse := sizS_eq s
    have hos := okSs_mem hok hs
    obtain ⟨kd, t, n, es, b, e, at_⟩ := s
    obtain ⟨o1, o2, o3, o4, o5⟩ := hos
    simp only [St0.e, St0.body, St0.els] at hse
    have hB : ∀ k, NkQ k (sizL b) → BlockN ext k b := ih (sizL b) (by omega) b (Nat.le_refl _) o4
    have hE : ∀ k, NkQ k (sizL e) → BlockN ext k e := ih (sizL e) (by omega) e (Nat.le_refl _) o5
    by_cases k1 : kd = 1
    · subst k1
      obtain ⟨x, rfl⟩ := len_one (o1.1 (by omega))
      exact nstmt1_e hx hq o2.1
    by_cases k2 : kd = 2
    · subst k2
      obtain ⟨x, rfl⟩ := len_one (o1.1 (by omega))
      exact nstmt2_e hx hq o2.1
    by_cases k3 : kd = 3
    · subst k3
      obtain ⟨x, y, rfl⟩ := len_two (o1.2 rfl)
      exact nstmt3_e hx hq o2.1 o2.2.1
    by_cases k4 : kd = 4
    · subst k4
      obtain ⟨x, rfl⟩ := len_one (o1.1 (by omega))
      exact nstmt4_e hx hq o2.1 hB hE
    by_cases k5 : kd = 5
    · subst k5
      obtain ⟨x, rfl⟩ := len_one (o1.1 (by omega))
      exact nstmt5_e hx hq o2.1 hB
    by_cases k8 : kd = 8
    · subst k8
      obtain ⟨x, rfl⟩ := len_one (o1.1 (by omega))
      exact nstmt8_e hx hq o2.1
    by_cases k10 : kd = 10
    · subst k10
      obtain ⟨x, rfl⟩ := len_one (o1.1 (by omega))
      exact nstmt10_e hx hq o2.1
    by_cases k11 : kd = 11
    · subst k11
      obtain ⟨x, rfl⟩ := len_one (o1.1 (by omega))
      exact nstmt11_e hx hq o2.1
    exact nstmtp_e hx hq ⟨k1, k2, k3, k4, k5, k8, k10, k11⟩
end Go.Proofs.Ythfollapianblaa
