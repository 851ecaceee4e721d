/- The program's checker of names: what must be, what is seen; The program's checker of names: what fits, numbers, members; The program's checker of names: expressions; The program's checker of names: a name is declared; back to so many; The program's checker of names: statements. Conditions: none. -/
import Derived.Test.YthfollapianblaaN27
set_option linter.unusedSimpArgs false
set_option linter.unusedVariables false
namespace Go.Proofs.Ythfollapianblaa
open Go Go.Ab
variable {ext : Sem'}
/-- The program's checker: what is seen (a stack of names, a map of types), the program, what is to be returned, how many loops are around. -/
structure Nk where
  p : Pr0
  ret : Tp
  deep : Int
  env : List Fl0
  e : Nat
  junk : List Str
def envM (env : List Fl0) : List (AV × AV) := env.map fun f => (.d (.str f.name), .agg [.d (.bool f.t.ptr), .d (.str f.t.to)])
def nkO (r1 r2 : Nat) (k : Nk) : AObj := .cells [.stk r1 k.e k.env.length, .mp r2, .d (.sl (k.p.structs.map Sr0.row)), .d (.sl (k.p.funcs.map Fn0.row)), .d (.bool k.ret.ptr), .d (.str k.ret.to), .d (.int .i64 k.deep)]
def namL (l : List Str) : List AV := l.map fun s => .d (.str s)
def nkS (k : Nk) : AObj := .stk k.e 1 (namL (k.env.map (·.name) ++ k.junk))
def nkM (k : Nk) : AObj := .mapo (envM k.env)
theorem nkO_refs (r1 r2 : Nat) (k : Nk) : refsO (nkO r1 r2 k) = [r1, r2] := rfl
theorem nkO_ren (f : Nat → Nat) (r1 r2 : Nat) (k : Nk) : renO f (nkO r1 r2 k) = nkO (f r1) (f r2) k := rfl
theorem nkO_is (r1 r2 : Nat) (k : Nk) : isObj (nkO r1 r2 k) = true := rfl
theorem nkO_cells (r1 r2 : Nat) (k : Nk) : cellsOf (nkO r1 r2 k) = some [.stk r1 k.e k.env.length, .mp r2, .d (.sl (k.p.structs.map Sr0.row)), .d (.sl (k.p.funcs.map Fn0.row)), .d (.bool k.ret.ptr), .d (.str k.ret.to), .d (.int .i64 k.deep)] := rfl
theorem namL_refs : ∀ l : List Str, ((namL l).map refs).flatten = []
  | [] => rfl
  | s :: l => by
    have := namL_refs l
    unfold namL at this ⊢
    simp only [List.map_cons, List.flatten_cons, this]; rfl
theorem namL_ren (f : Nat → Nat) : ∀ l : List Str, (namL l).map (ren f) = namL l
  | [] => rfl
  | s :: l => by
    have := namL_ren f l
    unfold namL at this ⊢
    simp only [List.map_cons, this]; rfl
theorem envM_refs : ∀ l : List Fl0, refsM (envM l) = []
  | [] => rfl
  | s :: l => by
    have := envM_refs l
    unfold envM at this ⊢
    simp only [List.map_cons, refsM, this]; rfl
theorem envM_ren (f : Nat → Nat) : ∀ l : List Fl0, renM f (envM l) = envM l
  | [] => rfl
  | s :: l => by
    have := envM_ren f l
    unfold envM at this ⊢
    simp only [List.map_cons, renM, this]; rfl
theorem nkS_refs (k : Nk) : refsO (nkS k) = [] := by unfold nkS refsO; exact namL_refs _
theorem nkS_ren (f : Nat → Nat) (k : Nk) : renO f (nkS k) = nkS k := by unfold nkS renO; simp only [namL_ren]
theorem nkS_is (k : Nk) : isObj (nkS k) = true := rfl
theorem nkM_refs (k : Nk) : refsO (nkM k) = [] := by unfold nkM refsO; exact envM_refs _
theorem nkM_ren (f : Nat → Nat) (k : Nk) : renO f (nkM k) = nkM k := by unfold nkM renO; simp only [envM_ren]
theorem nkM_is (k : Nk) : isObj (nkM k) = true := rfl
theorem nkM_ents (k : Nk) : entsO (nkM k) = some (envM k.env) := rfl
attribute [go_sem] nkO_refs nkO_ren nkO_is nkO_cells nkS_refs nkS_ren nkS_is nkM_refs nkM_ren nkM_is nkM_ents
def tpA (t : Tp) : AV := .agg [.d (.bool t.ptr), .d (.str t.to)]
theorem findM_env (n : Str) : ∀ env : List Fl0, findM .str (.d (.str n)) (envM env) = some ((lookP env n).map tpA)
  | [] => rfl
  | f :: env => by
    have ih := findM_env n env
    have hcons : envM (f :: env) = (.d (.str f.name), .agg [.d (.bool f.t.ptr), .d (.str f.t.to)]) :: envM env := rfl
    rw [hcons]
    by_cases h : f.name = n
    · have : lookP (f :: env) n = some f.t := by simp [lookP, h]
      rw [this]
      simp only [findM, keyEq]
      rw [decide_eq_true h.symm]; rfl
    · have : lookP (f :: env) n = lookP env n := by simp [lookP, h]
      rw [this]
      simp only [findM, keyEq]
      rw [decide_eq_false (fun e => h e.symm)]
      exact ih
theorem setM_env (n : Str) (t : Tp) (p : Po) : ∀ env : List Fl0, lookP env n = none → setM .str (.d (.str n)) (.agg [.d (.bool t.ptr), .d (.str t.to)]) (envM env) = some (envM (env ++ [⟨n, t, p⟩]))
  | [], _ => rfl
  | f :: env, h => by
    have hcons : envM (f :: env) = (.d (.str f.name), .agg [.d (.bool f.t.ptr), .d (.str f.t.to)]) :: envM env := rfl
    have hn : ¬ f.name = n := fun e => by simp [lookP, e] at h
    have h2 : lookP env n = none := by simpa [lookP, hn] using h
    rw [hcons]
    simp only [setM, keyEq]
    rw [decide_eq_false (fun e => hn e.symm), setM_env n t p env h2]
    rfl
theorem delM_env (n : Str) (x : Fl0) (hx : x.name = n) (rest : List Fl0) : ∀ env : List Fl0, lookP env n = none → delM .str (.d (.str n)) (envM (env ++ x :: rest)) = some (envM (env ++ rest))
  | [], _ => by
    have hcons : envM ([] ++ x :: rest) = (.d (.str x.name), .agg [.d (.bool x.t.ptr), .d (.str x.t.to)]) :: envM rest := rfl
    rw [hcons]
    simp only [delM, keyEq]
    rw [decide_eq_true hx.symm]
    rfl
  | f :: env, h => by
    have hcons : envM (f :: env ++ x :: rest) = (.d (.str f.name), .agg [.d (.bool f.t.ptr), .d (.str f.t.to)]) :: envM (env ++ x :: rest) := rfl
    have hn : ¬ f.name = n := fun e => by simp [lookP, e] at h
    have h2 : lookP env n = none := by simpa [lookP, hn] using h
    rw [hcons]
    simp only [delM, keyEq]
    rw [decide_eq_false (fun e => hn e.symm), delM_env n x hx rest env h2]
    rfl
/-- A panic with a diag. -/
def panD (d : Dg) : Out := .pan (.iface 31 (.agg [.d (.int .i64 d.stage), .d (.int .i64 d.what), .d (.int .i64 d.pos.1), .d (.int .i64 d.pos.2)]))
theorem nmust_t (hx : T0 ext) (f x y : Int) : G ext 49 [.d (.bool true), .d (.int .i64 f), .agg [.d (.int .i64 x), .d (.int .i64 y)]] [] = some (.ret (.tuple []), []) := by
  rw [G_body hx.clear rfl Try.func49 rfl Try.results49 hv_49 rfl]
  simp (maxSteps := 4000000) (disch := first | (intros; contradiction) | omega) only [go_sem]
  done
theorem nmust_f (hx : T0 ext) (f x y : Int) : G ext 49 [.d (.bool false), .d (.int .i64 f), .agg [.d (.int .i64 x), .d (.int .i64 y)]] [] = some (.pan (.iface 31 (.agg [.d (.int .i64 4), .d (.int .i64 f), .d (.int .i64 x), .d (.int .i64 y)])), []) := by
  rw [G_body hx.clear rfl Try.func49 rfl Try.results49 hv_49 rfl]
  simp (maxSteps := 4000000) (disch := first | (intros; contradiction) | omega) only [go_sem]
  done
theorem nknown_e (hx : T0 ext) (k : Nk) (t : Tp) (hl : k.p.structs.length ≤ 1000000) : G ext 50 [.ptr 0 0, .agg [.d (.bool t.ptr), .d (.str t.to)]] [nkO 1 2 k, nkS k, nkM k] = some (.ret (.d (.bool (knownP k.p t))), [nkO 1 2 k, nkS k, nkM k]) := by
  have h := struct_e hx k.p t.to hl
  unfold Pr0.av at h
  unfold knownP
  rw [G_body hx.clear rfl Try.func50 rfl Try.results50 hv_50 rfl]
  cases hp : t.ptr with
  | false =>
    simp (maxSteps := 4000000) (disch := first | (intros; contradiction) | omega) only [go_sem, h]
    try simp
  | true =>
    by_cases hi : 0 ≤ idxN (nmS t.to) k.p.structs
    · simp (maxSteps := 4000000) (disch := first | (intros; contradiction) | omega) only [go_sem, h, hi]
      try simp [hi]
    · simp (maxSteps := 4000000) (disch := first | (intros; contradiction) | omega) only [go_sem, h, hi]
      try simp [hi]
theorem nlook_some (hx : T0 ext) (k : Nk) (n : Str) {t : Tp} (h : lookP k.env n = some t) (x y : Int) : G ext 83 [.ptr 0 0, .d (.str n), .agg [.d (.int .i64 x), .d (.int .i64 y)]] [nkO 1 2 k, nkS k, nkM k] = some (.ret (.agg [.d (.bool t.ptr), .d (.str t.to)]), [nkO 1 2 k, nkS k, nkM k]) := by
  have hm := nmust_t hx 5 x y
  have hfind := findM_env n k.env
  rw [h] at hfind
  simp only [Option.map_some, tpA] at hfind
  rw [G_body hx.clear rfl Try.func83 rfl Try.results83 hv_83 rfl]
  simp (maxSteps := 4000000) (disch := first | (intros; contradiction) | omega) only [go_sem, hfind, hm]
  done
theorem nlook_none (hx : T0 ext) (k : Nk) (n : Str) (h : lookP k.env n = none) (x y : Int) : G ext 83 [.ptr 0 0, .d (.str n), .agg [.d (.int .i64 x), .d (.int .i64 y)]] [nkO 1 2 k, nkS k, nkM k] = some (.pan (.iface 31 (.agg [.d (.int .i64 4), .d (.int .i64 5), .d (.int .i64 x), .d (.int .i64 y)])), [nkO 1 2 k, nkS k, nkM k]) := by
  have hm := nmust_f hx 5 x y
  have hfind := findM_env n k.env
  rw [h] at hfind
  simp only [Option.map_none] at hfind
  rw [G_body hx.clear rfl Try.func83 rfl Try.results83 hv_83 rfl]
  simp (maxSteps := 4000000) (disch := first | (intros; contradiction) | omega) only [go_sem, hfind, hm]
  done
end Go.Proofs.Ythfollapianblaa
namespace Go.Proofs.Ythfollapianblaa
open Go Go.Ab
variable {ext : Sem'}
def outU : Except Dg Unit → Out
  | .ok _ => .ret (.tuple [])
  | .error d => .pan (.iface 31 (.agg [.d (.int .i64 d.stage), .d (.int .i64 d.what), .d (.int .i64 d.pos.1), .d (.int .i64 d.pos.2)]))
def outT : Except Dg Tp → Out
  | .ok t => .ret (.agg [.d (.bool t.ptr), .d (.str t.to)])
  | .error d => .pan (.iface 31 (.agg [.d (.int .i64 d.stage), .d (.int .i64 d.what), .d (.int .i64 d.pos.1), .d (.int .i64 d.pos.2)]))
theorem outU_ok (u : Unit) : outU (.ok u) = .ret (.tuple []) := rfl
theorem outU_err (d : Dg) : outU (.error d) = .pan (.iface 31 (.agg [.d (.int .i64 d.stage), .d (.int .i64 d.what), .d (.int .i64 d.pos.1), .d (.int .i64 d.pos.2)])) := rfl
theorem outT_ok (t : Tp) : outT (.ok t) = .ret (.agg [.d (.bool t.ptr), .d (.str t.to)]) := rfl
theorem outT_err (d : Dg) : outT (.error d) = .pan (.iface 31 (.agg [.d (.int .i64 d.stage), .d (.int .i64 d.what), .d (.int .i64 d.pos.1), .d (.int .i64 d.pos.2)])) := rfl
theorem errT {α : Type} (f : Int) (p : Po) : (err f p : Except Dg α) = .error ⟨4, f, (p.line, p.col)⟩ := rfl
def ExprN (ext : Sem') (k : Nk) (e : Ex0) : Prop := G ext 88 [.ptr 0 0, .agg [.d (.int .i64 e.kind), .d (.int .i64 e.n), .d (.str e.name), .d (.str e.op), .d (.sl (e.kids.map Ex0.row)), .d (.int .i64 e.pos.line), .d (.int .i64 e.pos.col)]] [nkO 1 2 k, nkS k, nkM k] = some (outT (exprP k.p k.env e), [nkO 1 2 k, nkS k, nkM k])
set_option maxHeartbeats 2000000 in
theorem nfit_e (hx : T0 ext) (k : Nk) (t : Tp) (e : Ex0) (h : ExprN ext k e) : G ext 84 [.ptr 0 0, .agg [.d (.bool t.ptr), .d (.str t.to)], .agg [.d (.int .i64 e.kind), .d (.int .i64 e.n), .d (.str e.name), .d (.str e.op), .d (.sl (e.kids.map Ex0.row)), .d (.int .i64 e.pos.line), .d (.int .i64 e.pos.col)]] [nkO 1 2 k, nkS k, nkM k] = some (outU (andT (exprP k.p k.env e) fun u => mustP (fitsP t u) 7 e.pos (.ok ())), [nkO 1 2 k, nkS k, nkM k]) := by
  unfold ExprN at h
  cases he : exprP k.p k.env e with
  | error d =>
    rw [he, outT_err] at h
    rw [andT_err, outU_err]
    rw [G_body hx.clear rfl Try.func84 rfl Try.results84 hv_84 rfl]
    simp (maxSteps := 4000000) (disch := first | (intros; contradiction) | omega) only [go_sem, h]
    done
  | ok u =>
    rw [he, outT_ok] at h
    rw [andT_ok]
    have hf := fits_e hx t u
    unfold Tp.av at hf
    cases hft : fitsP t u with
    | true =>
      rw [hft] at hf
      have hm := nmust_t hx 7 e.pos.line e.pos.col
      rw [must_t, outU_ok]
      have hfit := hf
      clear hf
      rw [G_body hx.clear rfl Try.func84 rfl Try.results84 hv_84 rfl]
      simp (maxSteps := 4000000) (disch := first | (intros; contradiction) | omega) only [go_sem, h, hfit, hm]
      done
    | false =>
      rw [hft] at hf
      have hm := nmust_f hx 7 e.pos.line e.pos.col
      rw [must_f, outU_err]
      have hfit := hf
      clear hf
      rw [G_body hx.clear rfl Try.func84 rfl Try.results84 hv_84 rfl]
      simp (maxSteps := 4000000) (disch := first | (intros; contradiction) | omega) only [go_sem, h, hfit, hm]
      done
set_option maxHeartbeats 2000000 in
theorem nnumber_e (hx : T0 ext) (k : Nk) (e : Ex0) (p : Po) (h : ExprN ext k e) : G ext 86 [.ptr 0 0, .agg [.d (.int .i64 e.kind), .d (.int .i64 e.n), .d (.str e.name), .d (.str e.op), .d (.sl (e.kids.map Ex0.row)), .d (.int .i64 e.pos.line), .d (.int .i64 e.pos.col)], .agg [.d (.int .i64 p.line), .d (.int .i64 p.col)]] [nkO 1 2 k, nkS k, nkM k] = some (outU (andT (exprP k.p k.env e) fun u => mustP (!u.ptr) 7 p (.ok ())), [nkO 1 2 k, nkS k, nkM k]) := by
  unfold ExprN at h
  cases he : exprP k.p k.env e with
  | error d =>
    rw [he, outT_err] at h
    rw [andT_err, outU_err]
    rw [G_body hx.clear rfl Try.func86 rfl Try.results86 hv_86 rfl]
    simp (maxSteps := 4000000) (disch := first | (intros; contradiction) | omega) only [go_sem, h]
    done
  | ok u =>
    rw [he, outT_ok] at h
    rw [andT_ok]
    cases hft : u.ptr with
    | false =>
      have hm := nmust_t hx 7 p.line p.col
      rw [Bool.not_false, must_t, outU_ok]
      rw [G_body hx.clear rfl Try.func86 rfl Try.results86 hv_86 rfl]
      simp (maxSteps := 4000000) (disch := first | (intros; contradiction) | omega) only [go_sem, h, hft, hm]
      done
    | true =>
      have hm := nmust_f hx 7 p.line p.col
      rw [Bool.not_true, must_f, outU_err]
      rw [G_body hx.clear rfl Try.func86 rfl Try.results86 hv_86 rfl]
      simp (maxSteps := 4000000) (disch := first | (intros; contradiction) | omega) only [go_sem, h, hft, hm]
      done
set_option maxHeartbeats 2000000 in
theorem nmember_e (hx : T0 ext) (k : Nk) (hp : OkP k.p) (e : Ex0) (n : Str) (p q : Po) (h : ExprN ext k e) : G ext 85 [.ptr 0 0, .agg [.d (.int .i64 e.kind), .d (.int .i64 e.n), .d (.str e.name), .d (.str e.op), .d (.sl (e.kids.map Ex0.row)), .d (.int .i64 e.pos.line), .d (.int .i64 e.pos.col)], .d (.str n), .agg [.d (.int .i64 p.line), .d (.int .i64 p.col)], .agg [.d (.int .i64 q.line), .d (.int .i64 q.col)]] [nkO 1 2 k, nkS k, nkM k] = some (outT (memK k.p (exprP k.p k.env e) n p q .ok), [nkO 1 2 k, nkS k, nkM k]) := by
  unfold ExprN at h
  unfold memK
  cases he : exprP k.p k.env e with
  | error d =>
    rw [he, outT_err] at h
    rw [andT_err, outT_err]
    rw [G_body hx.clear rfl Try.func85 rfl Try.results85 hv_85 rfl]
    simp (maxSteps := 4000000) (disch := first | (intros; contradiction) | omega) only [go_sem, h]
    done
  | ok u =>
    rw [he, outT_ok] at h
    rw [andT_ok]
    have hfl := field_e hx k.p u.to n hp.structs hp.fields
    unfold Pr0.av at hfl
    cases hft : u.ptr with
    | false =>
      have hm := nmust_f hx 7 p.line p.col
      have hpt : pointsP u = false := by simp [pointsP, hft]
      rw [hpt, must_f, outT_err]
      rw [G_body hx.clear rfl Try.func85 rfl Try.results85 hv_85 rfl]
      simp (maxSteps := 4000000) (disch := first | (intros; contradiction) | omega) only [go_sem, h, hft, hm]
      done
    | true =>
      by_cases hto : u.to = []
      · have hm := nmust_f hx 7 p.line p.col
        have hpt : pointsP u = false := by simp [pointsP, hft, hto]
        have hto' := eq_true hto
        rw [hpt, must_f, outT_err]
        rw [G_body hx.clear rfl Try.func85 rfl Try.results85 hv_85 rfl]
        simp (maxSteps := 4000000) (disch := first | (intros; contradiction) | omega) only [go_sem, h, hft, hto', hm]
        done
      · have hm := nmust_t hx 7 p.line p.col
        have hpt : pointsP u = true := by simp [pointsP, hft, hto]
        rw [hpt, must_t]
        cases hfd : fieldP k.p u.to n with
        | none =>
          rw [hfd] at hfl
          unfold fldA at hfl
          have hm2 := nmust_f hx 5 q.line q.col
          rw [got_none, outT_err]
          rw [G_body hx.clear rfl Try.func85 rfl Try.results85 hv_85 rfl]
          simp (maxSteps := 4000000) (disch := first | (intros; contradiction) | omega) only [go_sem, h, hft, hto, hm, hfl, hm2]
          done
        | some iu =>
          obtain ⟨i, w⟩ := iu
          rw [hfd] at hfl
          unfold fldA at hfl
          simp only at hfl
          have hm2 := nmust_t hx 5 q.line q.col
          rw [got_some]
          show _ = some (outT (.ok w), _)
          rw [outT_ok]
          rw [G_body hx.clear rfl Try.func85 rfl Try.results85 hv_85 rfl]
          simp (maxSteps := 4000000) (disch := first | (intros; contradiction) | omega) only [go_sem, h, hft, hto, hm, hfl, hm2]
          done
set_option maxHeartbeats 8000000 in
theorem npair_e (hx : T0 ext) (k : Nk) (n : Int) (s o : Str) (x y : Ex0) (at_ : Po) (h1 : ExprN ext k x) (h2 : ExprN ext k y) : G ext 93 [.ptr 0 0, .agg [.d (.int .i64 4), .d (.int .i64 n), .d (.str s), .d (.str o), .d (.sl ([x, y].map Ex0.row)), .d (.int .i64 at_.line), .d (.int .i64 at_.col)]] [nkO 1 2 k, nkS k, nkM k] = some (outU (andT (exprP k.p k.env x) fun a => andT (exprP k.p k.env y) fun b => mustP (pairB a b x.kind y.kind o) 7 at_ (.ok ())), [nkO 1 2 k, nkS k, nkM k]) := by
  unfold ExprN at h1 h2
  rw [two_row]
  cases he1 : exprP k.p k.env x with
  | error d =>
    rw [he1, outT_err] at h1
    rw [andT_err, outU_err]
    cases he2 : exprP k.p k.env y with
    | error d2 =>
      rw [he2, outT_err] at h2
      rw [G_body hx.clear rfl Try.func93 rfl Try.results93 hv_93 rfl]
      simp (maxSteps := 4000000) (disch := first | (intros; contradiction) | omega) only [go_sem, h1]
      done
    | ok u2 =>
      rw [he2, outT_ok] at h2
      rw [G_body hx.clear rfl Try.func93 rfl Try.results93 hv_93 rfl]
      simp (maxSteps := 4000000) (disch := first | (intros; contradiction) | omega) only [go_sem, h1]
      done
  | ok t1 =>
  rw [he1, outT_ok] at h1
  rw [andT_ok]
  cases he2 : exprP k.p k.env y with
  | error d =>
    rw [he2, outT_err] at h2
    rw [andT_err, outU_err]
    rw [G_body hx.clear rfl Try.func93 rfl Try.results93 hv_93 rfl]
    simp (maxSteps := 4000000) (disch := first | (intros; contradiction) | omega) only [go_sem, h1, h2]
    done
  | ok t2 =>
  rw [he2, outT_ok] at h2
  rw [andT_ok]
  cases p1 : t1.ptr with
  | false =>
    cases p2 : t2.ptr with
    | false =>
      have hpb : pairB t1 t2 x.kind y.kind o = true := by simp [pairB, p1, p2]
      rw [hpb, must_t, outU_ok]
      have ha := nmust_t hx 7 at_.line at_.col
      rw [G_body hx.clear rfl Try.func93 rfl Try.results93 hv_93 rfl]
      simp (maxSteps := 4000000) (disch := first | (intros; contradiction) | omega) only [go_sem, h1, h2, p1, p2, ha]
      done
    | true =>
      by_cases x6 : x.kind = 6
      · have x6t := eq_true x6
        by_cases o1 : o = [61, 61]
        · have o1t := eq_true o1
          have hpb : pairB t1 t2 x.kind y.kind o = true := by simp [pairB, p1, p2, x6, o1]
          rw [hpb, must_t, outU_ok]
          have ha := nmust_t hx 7 at_.line at_.col
          rw [G_body hx.clear rfl Try.func93 rfl Try.results93 hv_93 rfl]
          simp (maxSteps := 4000000) (disch := first | (intros; contradiction) | omega) only [go_sem, h1, h2, p1, p2, x6t, o1t, ha]
          done
        · skip
          by_cases o2 : o = [33, 61]
          · have o2t := eq_true o2
            have hpb : pairB t1 t2 x.kind y.kind o = true := by simp [pairB, p1, p2, x6, o1, o2]
            rw [hpb, must_t, outU_ok]
            have ha := nmust_t hx 7 at_.line at_.col
            rw [G_body hx.clear rfl Try.func93 rfl Try.results93 hv_93 rfl]
            simp (maxSteps := 4000000) (disch := first | (intros; contradiction) | omega) only [go_sem, h1, h2, p1, p2, x6t, o1, o2t, ha]
            done
          · skip
            have hpb : pairB t1 t2 x.kind y.kind o = false := by simp [pairB, p1, p2, x6, o1, o2]
            rw [hpb, must_f, outU_err]
            have ha := nmust_f hx 7 at_.line at_.col
            rw [G_body hx.clear rfl Try.func93 rfl Try.results93 hv_93 rfl]
            simp (maxSteps := 4000000) (disch := first | (intros; contradiction) | omega) only [go_sem, h1, h2, p1, p2, x6t, o1, o2, ha]
            done
      · skip
        have hpb : pairB t1 t2 x.kind y.kind o = false := by simp [pairB, p1, p2, x6]
        rw [hpb, must_f, outU_err]
        have ha := nmust_f hx 7 at_.line at_.col
        rw [G_body hx.clear rfl Try.func93 rfl Try.results93 hv_93 rfl]
        simp (maxSteps := 4000000) (disch := first | (intros; contradiction) | omega) only [go_sem, h1, h2, p1, p2, x6, ha]
        done
  | true =>
    cases p2 : t2.ptr with
    | false =>
      by_cases y6 : y.kind = 6
      · have y6t := eq_true y6
        by_cases o1 : o = [61, 61]
        · have o1t := eq_true o1
          have hpb : pairB t1 t2 x.kind y.kind o = true := by simp [pairB, p1, p2, y6, o1]
          rw [hpb, must_t, outU_ok]
          have ha := nmust_t hx 7 at_.line at_.col
          rw [G_body hx.clear rfl Try.func93 rfl Try.results93 hv_93 rfl]
          simp (maxSteps := 4000000) (disch := first | (intros; contradiction) | omega) only [go_sem, h1, h2, p1, p2, y6t, o1t, ha]
          done
        · skip
          by_cases o2 : o = [33, 61]
          · have o2t := eq_true o2
            have hpb : pairB t1 t2 x.kind y.kind o = true := by simp [pairB, p1, p2, y6, o1, o2]
            rw [hpb, must_t, outU_ok]
            have ha := nmust_t hx 7 at_.line at_.col
            rw [G_body hx.clear rfl Try.func93 rfl Try.results93 hv_93 rfl]
            simp (maxSteps := 4000000) (disch := first | (intros; contradiction) | omega) only [go_sem, h1, h2, p1, p2, y6t, o1, o2t, ha]
            done
          · skip
            have hpb : pairB t1 t2 x.kind y.kind o = false := by simp [pairB, p1, p2, y6, o1, o2]
            rw [hpb, must_f, outU_err]
            have ha := nmust_f hx 7 at_.line at_.col
            rw [G_body hx.clear rfl Try.func93 rfl Try.results93 hv_93 rfl]
            simp (maxSteps := 4000000) (disch := first | (intros; contradiction) | omega) only [go_sem, h1, h2, p1, p2, y6t, o1, o2, ha]
            done
      · skip
        have hpb : pairB t1 t2 x.kind y.kind o = false := by simp [pairB, p1, p2, y6]
        rw [hpb, must_f, outU_err]
        have ha := nmust_f hx 7 at_.line at_.col
        rw [G_body hx.clear rfl Try.func93 rfl Try.results93 hv_93 rfl]
        simp (maxSteps := 4000000) (disch := first | (intros; contradiction) | omega) only [go_sem, h1, h2, p1, p2, y6, ha]
        done
    | true =>
      by_cases y6 : y.kind = 6
      · have y6t := eq_true y6
        by_cases o1 : o = [61, 61]
        · have o1t := eq_true o1
          have hpb : pairB t1 t2 x.kind y.kind o = true := by simp [pairB, p1, p2, y6, o1]
          rw [hpb, must_t, outU_ok]
          have ha := nmust_t hx 7 at_.line at_.col
          rw [G_body hx.clear rfl Try.func93 rfl Try.results93 hv_93 rfl]
          simp (maxSteps := 4000000) (disch := first | (intros; contradiction) | omega) only [go_sem, h1, h2, p1, p2, y6t, o1t, ha]
          done
        · skip
          by_cases o2 : o = [33, 61]
          · have o2t := eq_true o2
            have hpb : pairB t1 t2 x.kind y.kind o = true := by simp [pairB, p1, p2, y6, o1, o2]
            rw [hpb, must_t, outU_ok]
            have ha := nmust_t hx 7 at_.line at_.col
            rw [G_body hx.clear rfl Try.func93 rfl Try.results93 hv_93 rfl]
            simp (maxSteps := 4000000) (disch := first | (intros; contradiction) | omega) only [go_sem, h1, h2, p1, p2, y6t, o1, o2t, ha]
            done
          · skip
            have hpb : pairB t1 t2 x.kind y.kind o = false := by simp [pairB, p1, p2, y6, o1, o2]
            rw [hpb, must_f, outU_err]
            have ha := nmust_f hx 7 at_.line at_.col
            rw [G_body hx.clear rfl Try.func93 rfl Try.results93 hv_93 rfl]
            simp (maxSteps := 4000000) (disch := first | (intros; contradiction) | omega) only [go_sem, h1, h2, p1, p2, y6t, o1, o2, ha]
            done
      · skip
        by_cases x6 : x.kind = 6
        · have x6t := eq_true x6
          by_cases o1 : o = [61, 61]
          · have o1t := eq_true o1
            have hpb : pairB t1 t2 x.kind y.kind o = true := by simp [pairB, p1, p2, y6, x6, o1]
            rw [hpb, must_t, outU_ok]
            have ha := nmust_t hx 7 at_.line at_.col
            rw [G_body hx.clear rfl Try.func93 rfl Try.results93 hv_93 rfl]
            simp (maxSteps := 4000000) (disch := first | (intros; contradiction) | omega) only [go_sem, h1, h2, p1, p2, y6, x6t, o1t, ha]
            done
          · skip
            by_cases o2 : o = [33, 61]
            · have o2t := eq_true o2
              have hpb : pairB t1 t2 x.kind y.kind o = true := by simp [pairB, p1, p2, y6, x6, o1, o2]
              rw [hpb, must_t, outU_ok]
              have ha := nmust_t hx 7 at_.line at_.col
              rw [G_body hx.clear rfl Try.func93 rfl Try.results93 hv_93 rfl]
              simp (maxSteps := 4000000) (disch := first | (intros; contradiction) | omega) only [go_sem, h1, h2, p1, p2, y6, x6t, o1, o2t, ha]
              done
            · skip
              have hpb : pairB t1 t2 x.kind y.kind o = false := by simp [pairB, p1, p2, y6, x6, o1, o2]
              rw [hpb, must_f, outU_err]
              have ha := nmust_f hx 7 at_.line at_.col
              rw [G_body hx.clear rfl Try.func93 rfl Try.results93 hv_93 rfl]
              simp (maxSteps := 4000000) (disch := first | (intros; contradiction) | omega) only [go_sem, h1, h2, p1, p2, y6, x6t, o1, o2, ha]
              done
        · skip
          have hpb : pairB t1 t2 x.kind y.kind o = false := by simp [pairB, p1, p2, y6, x6]
          rw [hpb, must_f, outU_err]
          have ha := nmust_f hx 7 at_.line at_.col
          rw [G_body hx.clear rfl Try.func93 rfl Try.results93 hv_93 rfl]
          simp (maxSteps := 4000000) (disch := first | (intros; contradiction) | omega) only [go_sem, h1, h2, p1, p2, y6, x6, ha]
          done
end Go.Proofs.Ythfollapianblaa
namespace Go.Proofs.Ythfollapianblaa
open Go Go.Ab
variable {ext : Sem'}
set_option maxHeartbeats 4000000 in
theorem ncall_e (hx : T0 ext) (k : Nk) (hp : OkP k.p) (n : Int) (s o : Str) (ks : List Ex0) (at_ : Po) (hk : ks.length ≤ 1000000) (ih : ∀ x, x ∈ ks → ExprN ext k x) : G ext 94 [.ptr 0 0, .agg [.d (.int .i64 9), .d (.int .i64 n), .d (.str s), .d (.str o), .d (.sl (ks.map Ex0.row)), .d (.int .i64 at_.line), .d (.int .i64 at_.col)]] [nkO 1 2 k, nkS k, nkM k] = some (outT (gotP ((idxP (nmF s) k.p.funcs).bind fun i => k.p.funcs[i]?) at_ fun f => mustP (decide (f.params.length = ks.length)) 7 at_ (andT (argsK f.params ks (exprsP k.p k.env ks)) fun _ => .ok f.ret)), [nkO 1 2 k, nkS k, nkM k]) := by
  have hfn := func_e hx k.p s hp.funcs
  unfold Pr0.av at hfn
  have hll : (ks.map Ex0.row).length = ks.length := List.length_map _
  rcases idxN_get (p := nmF s) (l := k.p.funcs) with ⟨i1, i2⟩ | ⟨i, f, i1, i2, i3, i4⟩
  · rw [i2, got_none, outT_err]
    have i0 : ¬ (0 : Int) ≤ idxN (nmF s) k.p.funcs := by omega
    have hm := nmust_f hx 5 at_.line at_.col
    rw [G_body hx.clear rfl Try.func94 rfl Try.results94 hv_94 rfl]
    simp (maxSteps := 4000000) (disch := first | (intros; contradiction) | omega) only [go_sem, hfn, i0, hm]
    done
  · rw [i4, got_some]
    rw [i1] at hfn
    have hm := nmust_t hx 5 at_.line at_.col
    have i0 : (0 : Int) ≤ (i : Int) := by omega
    have hmem := List.mem_of_getElem? i3
    have hfp := hp.params f hmem
    have hfl : (k.p.funcs.map Fn0.row).length = k.p.funcs.length := List.length_map _
    have hrow : (k.p.funcs.map Fn0.row)[i]? = some (Fn0.row f) := by rw [List.getElem?_map, i3]; rfl
    simp only [Fn0.row] at hrow
    have hpl : (f.params.map Fl0.row).length = f.params.length := List.length_map _
    by_cases hlen : f.params.length = ks.length
    · have hm2 := nmust_t hx 7 at_.line at_.col
      have hlen' : (f.params.length : Int) = (ks.length : Int) := by omega
      have hle2 := eq_true hlen'
      simp only [hlen, decide_true, must_t]
      rw [G_body hx.clear rfl Try.func94 rfl Try.results94 hv_94 rfl]
      simp (maxSteps := 4000000) (disch := first | (intros; contradiction) | omega) only [go_sem, hfn, i0, hm, hrow, hpl, hll, hle2, hm2]
      generalize hL : loopA _ _ _ = L
      have hrs := exprsP_map k.p k.env ks
      apply range_upd hL (by simp (maxSteps := 4000000) (disch := first | (intros; contradiction) | omega) only [go_sem] <;> rfl) ks Ex0.row (α := Unit) (fun rest j _ => argsK f.params ks (exprsP k.p k.env ks) = argsK (f.params.drop j) rest (rest.map (exprP k.p k.env))) (fun j _ => [(7, .any), (8, .any), (42, .d (.int .i64 j))]) (fun _ _ => []) () (by simp (maxSteps := 4000000) (disch := first | (intros; contradiction) | omega) only [go_sem] <;> rfl) (by rw [hrs]; rfl) ?_ ?_
      · intro x rest j _ hi hlt hr hxx hj _ next ihl
        clear hL
        have hxm := List.mem_of_getElem? hxx
        rw [hll] at hlt
        rw [Ex0.row_eq] at hr
        have hj0 : (0 : Int) ≤ (j : Int) := by omega
        have hwj : IntKind.wrap .i64 ((j : Int) + 1) = ((j + 1 : Nat) : Int) := by rw [wrap64 (by omega) (by omega)]; omega
        have hq1 : f.params[j]? = some (f.params[j]'(by omega)) := List.getElem?_eq_getElem (by omega)
        have hr2 : (f.params.map Fl0.row)[j]? = some (Fl0.row (f.params[j]'(by omega))) := by rw [List.getElem?_map, hq1]; rfl
        have hd2 : f.params.drop j = (f.params[j]'(by omega)) :: f.params.drop (j + 1) := List.drop_eq_getElem_cons (by omega)
        rw [hd2] at hi
        generalize f.params[j]'(by omega) = q at hq1 hr2 hi
        simp only [Fl0.row] at hr2
        have hfit := nfit_e hx k q.t x (ih x hxm)
        simp only [List.map_cons, argsK] at hi
        cases hX : exprP k.p k.env x with
        | error d =>
          rw [hX, andT_err] at hi hfit
          rw [hi, andT_err, outT_err]
          rw [outU_err] at hfit
          simp (maxSteps := 4000000) (disch := first | (intros; contradiction) | omega) only [go_sem, hlt, hr, hr2, hj0, hpl, hfit]
          done
        | ok u =>
          rw [hX, andT_ok] at hi hfit
          cases hft : fitsP q.t u with
          | false =>
            rw [hft, must_f] at hi hfit
            rw [hi, andT_err, outT_err]
            rw [outU_err] at hfit
            simp (maxSteps := 4000000) (disch := first | (intros; contradiction) | omega) only [go_sem, hlt, hr, hr2, hj0, hpl, hfit]
            done
          | true =>
            rw [hft, must_t] at hi hfit
            rw [outU_ok] at hfit
            simp (maxSteps := 4000000) (disch := first | (intros; contradiction) | omega) only [go_sem, hlt, hr, hr2, hj0, hpl, hfit, hwj]
            exact ihl () _ hi (by simp (maxSteps := 4000000) (disch := first | (intros; contradiction) | omega) only [go_sem] <;> rfl)
      · intro j _ hi hlt hj next
        clear hL
        rw [hll] at hlt
        rw [hi]
        have hdn : f.params.drop j = [] := List.drop_eq_nil_of_le (by omega)
        rw [hdn]
        show _ = some (outT (andT (argsK [] [] []) fun _ => .ok f.ret), _)
        simp only [argsK, andT_ok, outT_ok]
        simp (maxSteps := 4000000) (disch := first | (intros; contradiction) | omega) only [go_sem, hlt]
        done
    · have hm2 := nmust_f hx 7 at_.line at_.col
      have hlen' : ¬ (f.params.length : Int) = (ks.length : Int) := by omega
      simp only [hlen, decide_false, must_f, outT_err]
      rw [G_body hx.clear rfl Try.func94 rfl Try.results94 hv_94 rfl]
      simp (maxSteps := 4000000) (disch := first | (intros; contradiction) | omega) only [go_sem, hfn, i0, hm, hrow, hpl, hll, hlen', hm2]
      done
set_option maxHeartbeats 4000000 in
theorem nexpr_e (hx : T0 ext) (k : Nk) (hp : OkP k.p) : ∀ (m : Nat) (e : Ex0), cntE e ≤ m → m ≤ 1000000 → okE e → ExprN ext k e := by
  intro m
  induction m using Nat.strongRecOn with
  | ind m ih =>
    intro e hm hm2 hok
    obtain ⟨kd, n, s, o, ks, at_⟩ := e
    have hcnt : cntEs ks + 1 ≤ m := by simp only [cntE] at hm; omega
    obtain ⟨har, hoks⟩ : arity kd ks.length ∧ okEs ks := hok
    have ihk : ∀ x, x ∈ ks → ExprN ext k x := fun x hxm => ih (cntE x) (by have := cntEs_mem hxm; omega) x (Nat.le_refl _) (by have := cntEs_mem hxm; omega) (okEs_mem hoks hxm)
    have hkl := cntEs_len ks
    unfold ExprN
    simp only [exprP]
    simp only [Ex0.kind, Ex0.n, Ex0.name, Ex0.op, Ex0.kids, Ex0.pos]
    unfold exprK
    by_cases k2 : kd = 2
    · subst k2
      simp only [if_true]
      cases hlk : lookP k.env s with
      | none =>
        have hl := nlook_none hx k s hlk at_.line at_.col
        rw [got_none, outT_err]
        rw [G_body hx.clear rfl Try.func88 rfl Try.results88 hv_88 rfl]
        simp (maxSteps := 4000000) (disch := first | (intros; contradiction) | omega) only [go_sem, hl]
        done
      | some t =>
        have hl := nlook_some hx k s hlk at_.line at_.col
        rw [got_some, outT_ok]
        rw [G_body hx.clear rfl Try.func88 rfl Try.results88 hv_88 rfl]
        simp (maxSteps := 4000000) (disch := first | (intros; contradiction) | omega) only [go_sem, hl]
        done
    rw [if_neg k2]
    by_cases k3 : kd = 3
    · subst k3
      obtain ⟨x, rfl⟩ := len_one (har.1 rfl)
      have h := nmember_e hx k hp x s at_ at_ (ihk x (by simp))
      simp only [if_true, exprsP, oneK_one]
      rw [one_row]
      generalize memK k.p (exprP k.p k.env x) s at_ at_ Except.ok = R at h
      cases R with
      | error d =>
        rw [outT_err] at h ⊢
        rw [G_body hx.clear rfl Try.func88 rfl Try.results88 hv_88 rfl]
        simp (maxSteps := 4000000) (disch := first | (intros; contradiction) | omega) only [go_sem, h]
        done
      | ok t =>
        rw [outT_ok] at h ⊢
        rw [G_body hx.clear rfl Try.func88 rfl Try.results88 hv_88 rfl]
        simp (maxSteps := 4000000) (disch := first | (intros; contradiction) | omega) only [go_sem, h]
        done
    rw [if_neg k3]
    by_cases k4 : kd = 4
    · subst k4
      obtain ⟨x, y, rfl⟩ := len_two (har.2.1 rfl)
      have h := npair_e hx k n s o x y at_ (ihk x (by simp)) (ihk y (by simp))
      simp only [if_true, exprsP, twoK_two]
      rw [two_row] at h ⊢
      have hR : ∀ z : Except Dg Tp, z = (andT (exprP k.p k.env x) fun a => andT (exprP k.p k.env y) fun b => mustP (pairB a b x.kind y.kind o) 7 at_ (.ok ⟨false, []⟩)) → (∃ d, z = .error d ∧ (andT (exprP k.p k.env x) fun a => andT (exprP k.p k.env y) fun b => mustP (pairB a b x.kind y.kind o) 7 at_ (.ok ())) = .error d) ∨ (z = .ok ⟨false, []⟩ ∧ (andT (exprP k.p k.env x) fun a => andT (exprP k.p k.env y) fun b => mustP (pairB a b x.kind y.kind o) 7 at_ (.ok ())) = .ok ()) := by
        rintro z rfl
        cases exprP k.p k.env x with
        | error d => exact .inl ⟨d, rfl, rfl⟩
        | ok a =>
          cases exprP k.p k.env y with
          | error d => exact .inl ⟨d, rfl, rfl⟩
          | ok b =>
            simp only [andT_ok]
            cases pairB a b x.kind y.kind o with
            | true => exact .inr ⟨rfl, rfl⟩
            | false => exact .inl ⟨_, rfl, rfl⟩
      rcases hR _ rfl with ⟨d, r1, r2⟩ | ⟨r1, r2⟩
      · rw [r2, outU_err] at h
        rw [r1, outT_err]
        rw [G_body hx.clear rfl Try.func88 rfl Try.results88 hv_88 rfl]
        simp (maxSteps := 4000000) (disch := first | (intros; contradiction) | omega) only [go_sem, h]
        done
      · rw [r2, outU_ok] at h
        rw [r1, outT_ok]
        rw [G_body hx.clear rfl Try.func88 rfl Try.results88 hv_88 rfl]
        simp (maxSteps := 4000000) (disch := first | (intros; contradiction) | omega) only [go_sem, h]
        done
    rw [if_neg k4]
    by_cases k5 : kd = 5
    · subst k5
      obtain ⟨x, rfl⟩ := len_one (har.2.2 rfl)
      have h := nnumber_e hx k x at_ (ihk x (by simp))
      simp only [if_true, exprsP, oneK_one]
      rw [one_row]
      cases hX : exprP k.p k.env x with
      | error d =>
        rw [hX, andT_err, outU_err] at h
        rw [andT_err, outT_err]
        rw [G_body hx.clear rfl Try.func88 rfl Try.results88 hv_88 rfl]
        simp (maxSteps := 4000000) (disch := first | (intros; contradiction) | omega) only [go_sem, h]
        done
      | ok u =>
        rw [hX, andT_ok] at h
        rw [andT_ok]
        cases hu : u.ptr with
        | false =>
          rw [hu, Bool.not_false, must_t, outU_ok] at h
          rw [Bool.not_false, must_t, outT_ok]
          rw [G_body hx.clear rfl Try.func88 rfl Try.results88 hv_88 rfl]
          simp (maxSteps := 4000000) (disch := first | (intros; contradiction) | omega) only [go_sem, h]
          done
        | true =>
          rw [hu, Bool.not_true, must_f, outU_err] at h
          rw [Bool.not_true, must_f, outT_err]
          rw [G_body hx.clear rfl Try.func88 rfl Try.results88 hv_88 rfl]
          simp (maxSteps := 4000000) (disch := first | (intros; contradiction) | omega) only [go_sem, h]
          done
    rw [if_neg k5]
    by_cases k6 : kd = 6
    · subst k6
      simp only [if_true, outT_ok]
      rw [G_body hx.clear rfl Try.func88 rfl Try.results88 hv_88 rfl]
      simp (maxSteps := 4000000) (disch := first | (intros; contradiction) | omega) only [go_sem]
      done
    rw [if_neg k6]
    by_cases k7 : kd = 7
    · subst k7
      simp only [if_true]
      have hst := struct_e hx k.p s hp.structs
      unfold Pr0.av at hst
      by_cases hi : 0 ≤ idxN (nmS s) k.p.structs
      · rw [decide_eq_true hi, must_t, outT_ok]
        have hm := nmust_t hx 5 at_.line at_.col
        rw [G_body hx.clear rfl Try.func88 rfl Try.results88 hv_88 rfl]
        simp (maxSteps := 4000000) (disch := first | (intros; contradiction) | omega) only [go_sem, hst, hi, hm]
        done
      · rw [decide_eq_false hi, must_f, outT_err]
        have hm := nmust_f hx 5 at_.line at_.col
        rw [G_body hx.clear rfl Try.func88 rfl Try.results88 hv_88 rfl]
        simp (maxSteps := 4000000) (disch := first | (intros; contradiction) | omega) only [go_sem, hst, hi, hm]
        done
    rw [if_neg k7]
    by_cases k9 : kd = 9
    · subst k9
      simp only [if_true]
      have h := ncall_e hx k hp n s o ks at_ (by omega) ihk
      generalize (gotP ((idxP (nmF s) k.p.funcs).bind fun i => k.p.funcs[i]?) at_ fun f => mustP (decide (f.params.length = ks.length)) 7 at_ (andT (argsK f.params ks (exprsP k.p k.env ks)) fun _ => .ok f.ret)) = R at h
      cases R with
      | error d =>
        rw [outT_err] at h ⊢
        rw [G_body hx.clear rfl Try.func88 rfl Try.results88 hv_88 rfl]
        simp (maxSteps := 4000000) (disch := first | (intros; contradiction) | omega) only [go_sem, h]
        done
      | ok t =>
        rw [outT_ok] at h ⊢
        rw [G_body hx.clear rfl Try.func88 rfl Try.results88 hv_88 rfl]
        simp (maxSteps := 4000000) (disch := first | (intros; contradiction) | omega) only [go_sem, h]
        done
    rw [if_neg k9, outT_ok]
    rw [G_body hx.clear rfl Try.func88 rfl Try.results88 hv_88 rfl]
    simp (maxSteps := 4000000) (disch := first | (intros; contradiction) | omega) only [go_sem, k2, k3, k4, k5, k6, k7, k9]
    done
end Go.Proofs.Ythfollapianblaa
namespace Go.Proofs.Ythfollapianblaa
open Go Go.Ab
variable {ext : Sem'}
attribute [go_sem] envM_refs envM_ren
theorem namL_append (a b : List Str) : namL (a ++ b) = namL a ++ namL b := by unfold namL; rw [List.map_append]
theorem namL_len (a : List Str) : (namL a).length = a.length := by unfold namL; rw [List.length_map]
def Nk.push (k : Nk) (x : Fl0) : Nk := ⟨k.p, k.ret, k.deep, k.env ++ [x], k.e + 1, []⟩
set_option maxHeartbeats 2000000 in
theorem ndeclare_e (hx : T0 ext) (k : Nk) (n : Str) (t : Tp) (q : Po) (h : lookP k.env n = none) (hl : k.env.length ≤ 1000000) : G ext 65 [.ptr 0 0, .d (.str n), .agg [.d (.bool t.ptr), .d (.str t.to)]] [nkO 1 2 k, nkS k, nkM k] = some (.ret (.tuple []), [nkO 1 2 (k.push ⟨n, t, q⟩), nkS (k.push ⟨n, t, q⟩), nkM (k.push ⟨n, t, q⟩)]) := by
  have hset := setM_env n t q k.env h
  have hlen : (namL (k.env.map (·.name) ++ k.junk)).length = k.env.length + k.junk.length := by rw [namL_len, List.length_append, List.length_map]
  have htake : (namL (k.env.map (·.name) ++ k.junk)).take k.env.length = namL (k.env.map (·.name)) := by
    rw [namL_append, List.take_append_of_le_length (by rw [namL_len, List.length_map]; omega), List.take_of_length_le (by rw [namL_len, List.length_map]; omega)]
  have hle : k.env.length ≤ k.env.length + k.junk.length := by omega
  have hroom : ∀ b : Nat, b ≤ 1000 → room (k.env.length + 1) b := fun b hb => room_few (by omega) hb
  have hO : AObj.cells [.stk 1 (k.e + 1) (k.env.length + 1), .mp 2, .d (.sl (k.p.structs.map Sr0.row)), .d (.sl (k.p.funcs.map Fn0.row)), .d (.bool k.ret.ptr), .d (.str k.ret.to), .d (.int .i64 k.deep)] = nkO 1 2 (k.push ⟨n, t, q⟩) := by unfold nkO Nk.push; simp
  have hS : AObj.stk (k.e + 1) 1 (namL (k.env.map (·.name)) ++ [.d (.str n)]) = nkS (k.push ⟨n, t, q⟩) := by unfold nkS Nk.push; simp [namL]
  have hM : AObj.mapo (envM (k.env ++ [⟨n, t, q⟩])) = nkM (k.push ⟨n, t, q⟩) := rfl
  have hSk : nkS k = .stk k.e 1 (namL (k.env.map (·.name) ++ k.junk)) := rfl
  rw [hSk]
  generalize namL (k.env.map (·.name) ++ k.junk) = cs at hlen htake ⊢
  rw [G_body hx.clear rfl Try.func65 rfl Try.results65 hv_65 rfl]
  simp (maxSteps := 4000000) (disch := first | (intros; contradiction) | omega) only [go_sem, hlen, htake, hle, hroom, hset, Nat.mul_one, hO, hS, hM]
  done
def Nk.back (k : Nk) (pre : List Fl0) (j : List Str) : Nk := ⟨k.p, k.ret, k.deep, pre, k.e, j⟩
theorem lookP_none {env : List Fl0} {n : Str} (h : n ∉ env.map (·.name)) : lookP env n = none := by
  unfold lookP
  rw [List.find?_eq_none.2 (fun x hx => by
    simp only [decide_eq_true_eq]
    intro e
    exact h (List.mem_map.2 ⟨x, hx, e⟩))]
  rfl
set_option maxHeartbeats 4000000 in
theorem nback_e (hx : T0 ext) (k : Nk) (pre post : List Fl0) (he : k.env = pre ++ post) (hnd : (k.env.map (·.name)).Nodup) (hl : k.env.length ≤ 1000000) : G ext 67 [.ptr 0 0, .d (.int .i64 (pre.length : Int))] [nkO 1 2 k, nkS k, nkM k] = some (.ret (.tuple []), [nkO 1 2 (k.back pre (post.map (·.name) ++ k.junk)), nkS (k.back pre (post.map (·.name) ++ k.junk)), nkM (k.back pre (post.map (·.name) ++ k.junk))]) := by
  obtain ⟨p, ret, deep, env, e, junk⟩ := k
  simp only at he
  subst he
  simp only at hnd hl
  have hel : (pre ++ post).length = pre.length + post.length := List.length_append
  generalize hk : (⟨p, ret, deep, pre ++ post, e, junk⟩ : Nk) = k
  have hke : k.e = e := by rw [← hk]
  have hkn : k.env = pre ++ post := by rw [← hk]
  have hkj : k.junk = junk := by rw [← hk]
  have hO : AObj.cells [.stk 1 k.e pre.length, .mp 2, .d (.sl (k.p.structs.map Sr0.row)), .d (.sl (k.p.funcs.map Fn0.row)), .d (.bool k.ret.ptr), .d (.str k.ret.to), .d (.int .i64 k.deep)] = nkO 1 2 (k.back pre (post.map (·.name) ++ k.junk)) := rfl
  have hS : nkS (k.back pre (post.map (·.name) ++ k.junk)) = nkS k := by unfold nkS Nk.back; rw [hkn]; simp
  have hkl : k.env.length = pre.length + post.length := by rw [hkn, hel]
  have hle1 : (pre.length : Int) ≤ (k.env.length : Int) := by omega
  have hle0 : (0 : Int) ≤ (pre.length : Int) := by omega
  have hsub : k.env.length - pre.length = post.length := by omega
  have hst : stkOf k.e (nkS k) = some (namL (k.env.map (·.name) ++ k.junk)) := by unfold nkS stkOf; simp
  rw [hS]
  rw [G_body hx.clear rfl Try.func67 rfl Try.results67 hv_67 rfl]
  simp (maxSteps := 4000000) (disch := first | (intros; contradiction) | omega) only [go_sem, hle0, hle1, hsub, Nat.mul_one]
  generalize hL : loopA _ _ _ = L
  have hM0 : nkM k = .mapo (envM (pre ++ post.drop 0)) := by unfold nkM; rw [hkn]; rfl
  rw [hM0] at hL
  apply loop_upd hL (by simp (maxSteps := 4000000) (disch := first | (intros; contradiction) | omega) only [go_sem] <;> rfl) (fun j : Nat => j ≤ post.length) (fun j => post.length - j) (fun j => [(5, .any), (13, .d (.int .i64 j))]) (fun j => [(2, .mapo (envM (pre ++ post.drop j)))]) 0 (by simp (maxSteps := 4000000) (disch := first | (intros; contradiction) | omega) only [go_sem] <;> rfl) (Nat.zero_le _) ?_
  clear hL
  intro j h1 next ih
  have hj0 : (0 : Int) ≤ (j : Int) := by omega
  by_cases hjl : j < post.length
  · have hlt : (j : Int) < (post.length : Int) := by omega
    have hx1 : post[j]? = some post[j] := List.getElem?_eq_getElem hjl
    have hxm := List.mem_of_getElem? hx1
    have hd1 : post.drop j = post[j] :: post.drop (j + 1) := List.drop_eq_getElem_cons hjl
    generalize post[j] = x at hx1 hxm hd1
    have hwj : IntKind.wrap .i64 ((j : Int) + 1) = ((j + 1 : Nat) : Int) := by rw [wrap64 (by omega) (by omega)]; omega
    have hget : (namL (k.env.map (·.name) ++ k.junk))[pre.length + j]? = some (.d (.str x.name)) := by
      unfold namL
      rw [List.getElem?_map, hkn, List.map_append, List.append_assoc, List.getElem?_append_right (by rw [List.length_map]; omega), List.length_map, Nat.add_sub_cancel_left, List.getElem?_append_left (by rw [List.length_map]; exact hjl), List.getElem?_map, hx1]
      rfl
    have hno : lookP pre x.name = none := by
      refine lookP_none fun hmem => ?_
      rw [List.map_append, List.nodup_append] at hnd
      exact hnd.2.2 _ hmem _ (List.mem_map.2 ⟨x, hxm, rfl⟩) rfl
    have hdel := delM_env x.name x rfl (post.drop (j + 1)) pre hno
    have hrf : refsM (envM (pre ++ x :: post.drop (j + 1))) = [] := envM_refs _
    simp (maxSteps := 4000000) (disch := first | (intros; contradiction) | omega) only [go_sem, hlt, hj0, hst, hget, hd1, hdel, hwj, Nat.mul_one]
    exact ih (j + 1) _ (by omega) (by omega) (by simp (maxSteps := 4000000) (disch := first | (intros; contradiction) | omega) only [go_sem] <;> rfl)
  · have hlt : ¬ (j : Int) < (post.length : Int) := by omega
    have hdn : post.drop j = [] := List.drop_eq_nil_of_le (by omega)
    have hM : AObj.mapo (envM pre) = nkM (k.back pre (post.map (·.name) ++ k.junk)) := rfl
    simp (maxSteps := 4000000) (disch := first | (intros; contradiction) | omega) only [go_sem, hlt, hdn, List.append_nil, hM, hle0, hle1, hO]
    done
end Go.Proofs.Ythfollapianblaa
namespace Go.Proofs.Ythfollapianblaa
open Go Go.Ab
variable {ext : Sem'}
structure NkQ (k : Nk) (m : Nat) : Prop where
  p : OkP k.p
  nd : (k.env.map (·.name)).Nodup
  sn : k.env.length + m ≤ 1000000
  lo : 0 ≤ k.deep
  hi : k.deep + m ≤ 1000000
structure LikeN (k k' : Nk) : Prop where
  p : k'.p = k.p
  ret : k'.ret = k.ret
  deep : k'.deep = k.deep
theorem LikeN.refl (k : Nk) : LikeN k k := ⟨rfl, rfl, rfl⟩
theorem LikeN.trans {a b c : Nk} (h : LikeN a b) (g : LikeN b c) : LikeN a c := ⟨g.p.trans h.p, g.ret.trans h.ret, g.deep.trans h.deep⟩
/-- A function that goes through something: to what is seen behind it, or it panics. -/
def Goes (ext : Sem') (f : Nat) (xs : List AV) (k : Nk) (X : Except Dg (List Fl0)) : Prop :=
  (∀ env', X = .ok env' → ∃ k', G ext f (.ptr 0 0 :: xs) [nkO 1 2 k, nkS k, nkM k] = some (.ret (.tuple []), [nkO 1 2 k', nkS k', nkM k']) ∧ LikeN k k' ∧ k'.env = env' ∧ (env'.map (·.name)).Nodup) ∧
  ∀ d, X = .error d → ∃ k', G ext f (.ptr 0 0 :: xs) [nkO 1 2 k, nkS k, nkM k] = some (.pan (.iface 31 (.agg [.d (.int .i64 d.stage), .d (.int .i64 d.what), .d (.int .i64 d.pos.1), .d (.int .i64 d.pos.2)])), [nkO 1 2 k', nkS k', nkM k'])
theorem goes_err {f : Nat} {xs : List AV} {k k' : Nk} {X : Except Dg (List Fl0)} {d : Dg} (hX : X = .error d) (h : G ext f (.ptr 0 0 :: xs) [nkO 1 2 k, nkS k, nkM k] = some (.pan (.iface 31 (.agg [.d (.int .i64 d.stage), .d (.int .i64 d.what), .d (.int .i64 d.pos.1), .d (.int .i64 d.pos.2)])), [nkO 1 2 k', nkS k', nkM k'])) : Goes ext f xs k X :=
  ⟨fun e he => (by rw [hX] at he; cases he), fun d' hd => (by rw [hX] at hd; cases hd; exact ⟨k', h⟩)⟩
theorem goes_ok {f : Nat} {xs : List AV} {k k' : Nk} {X : Except Dg (List Fl0)} {env : List Fl0} (hX : X = .ok env) (h : G ext f (.ptr 0 0 :: xs) [nkO 1 2 k, nkS k, nkM k] = some (.ret (.tuple []), [nkO 1 2 k', nkS k', nkM k'])) (h1 : LikeN k k') (h2 : k'.env = env) (h3 : (env.map (·.name)).Nodup) : Goes ext f xs k X :=
  ⟨fun e he => (by rw [hX] at he; cases he; exact ⟨k', h, h1, h2, h3⟩), fun d hd => (by rw [hX] at hd; cases hd)⟩
def stA (s : St0) : AV := .agg [.d (.int .i64 s.kind), .d (.bool s.t.ptr), .d (.str s.t.to), .d (.str s.name), .d (.sl (s.e.map Ex0.row)), .d (.sl (s.body.map St0.row)), .d (.sl (s.els.map St0.row)), .d (.int .i64 s.pos.line), .d (.int .i64 s.pos.col)]
def StmtN (ext : Sem') (k : Nk) (s : St0) : Prop := Goes ext 73 [.agg [.d (.int .i64 s.kind), .d (.bool s.t.ptr), .d (.str s.t.to), .d (.str s.name), .d (.sl (s.e.map Ex0.row)), .d (.sl (s.body.map St0.row)), .d (.sl (s.els.map St0.row)), .d (.int .i64 s.pos.line), .d (.int .i64 s.pos.col)]] k (stmtP k.p k.ret k.deep k.env s)
theorem lookP_some {env : List Fl0} {n : Str} {t : Tp} (h : lookP env n = some t) : n ∈ env.map (·.name) := by
  unfold lookP at h
  cases hf : env.find? (fun f => decide (f.name = n)) with
  | none => rw [hf] at h; cases h
  | some x =>
    have h1 := List.mem_of_find?_eq_some hf
    have h2 := List.find?_some hf
    exact List.mem_map.2 ⟨x, h1, of_decide_eq_true h2⟩
theorem lookP_not {env : List Fl0} {n : Str} (h : lookP env n = none) : n ∉ env.map (·.name) := by
  intro hm
  obtain ⟨x, hx, rfl⟩ := List.mem_map.1 hm
  unfold lookP at h
  cases hf : env.find? (fun f => decide (f.name = x.name)) with
  | none => exact absurd (List.find?_eq_none.1 hf x hx) (by simp)
  | some y => rw [hf] at h; cases h
theorem nodup_push {env : List Fl0} {x : Fl0} (h : (env.map (·.name)).Nodup) (hn : lookP env x.name = none) : ((env ++ [x]).map (·.name)).Nodup := by
  rw [List.map_append, List.nodup_append]
  refine ⟨h, by simp, fun a ha b hb => ?_⟩
  simp only [List.map_cons, List.map_nil, List.mem_singleton] at hb
  rw [hb]
  exact fun e => lookP_not hn (e ▸ ha)
set_option maxHeartbeats 4000000 in
theorem nstmt1_e (hx : T0 ext) {k : Nk} {t : Tp} {n : Str} {x : Ex0} {b l : List St0} {at_ : Po} (hq : NkQ k (sizS (.mk 1 t n [x] b l at_))) (hox : okE x) : StmtN ext k (.mk 1 t n [x] b l at_) := by
  have hsz : 1 + cntE x ≤ sizS (.mk 1 t n [x] b l at_) := by simp only [sizS, cntEs]; omega
  have hsn := hq.sn
  have hP : stmtP k.p k.ret k.deep k.env (.mk 1 t n [x] b l at_) = mustP (knownP k.p t) 5 at_ (fitK k.p k.env t x (mustP (lookP k.env n).isNone 6 at_ (.ok (k.env ++ [⟨n, t, ⟨0, 0⟩⟩])))) := by
    simp only [stmtP]; unfold stmtK; simp only [if_true, oneK_one]
  unfold fitK at hP
  unfold StmtN
  simp only [St0.kind, St0.t, St0.name, St0.e, St0.body, St0.els, St0.pos]
  rw [one_row]
  have hkn := nknown_e hx k t hq.p.structs
  have hex := nexpr_e hx k hq.p (cntE x) x (Nat.le_refl _) (by omega) hox
  have hfit := nfit_e hx k t x hex
  cases hk : knownP k.p t with
  | false =>
    rw [hk] at hkn
    have hm := nmust_f hx 5 at_.line at_.col
    rw [hk, must_f] at hP
    refine goes_err (k' := k) hP ?_
    have hd : G ext 82 [.ptr 0 0, .agg [.d (.int .i64 1), .d (.bool t.ptr), .d (.str t.to), .d (.str n), .d (.sl [[.int .i64 x.kind, .int .i64 x.n, .str x.name, .str x.op, .sl (x.kids.map Ex0.row), .int .i64 x.pos.line, .int .i64 x.pos.col]]), .d (.sl (b.map St0.row)), .d (.sl (l.map St0.row)), .d (.int .i64 at_.line), .d (.int .i64 at_.col)]] [nkO 1 2 k, nkS k, nkM k] = some (.pan (.iface 31 (.agg [.d (.int .i64 4), .d (.int .i64 5), .d (.int .i64 at_.line), .d (.int .i64 at_.col)])), [nkO 1 2 k, nkS k, nkM k]) := by
      rw [G_body hx.clear rfl Try.func82 rfl Try.results82 hv_82 rfl]
      simp (maxSteps := 4000000) (disch := first | (intros; contradiction) | omega) only [go_sem, hkn, hm]
      done
    rw [G_body hx.clear rfl Try.func73 rfl Try.results73 hv_73 rfl]
    simp (maxSteps := 4000000) (disch := first | (intros; contradiction) | omega) only [go_sem, hd]
    done
  | true =>
    rw [hk] at hkn
    have hm := nmust_t hx 5 at_.line at_.col
    rw [hk, must_t] at hP
    have hcase : (∃ d, andT (exprP k.p k.env x) (fun u => mustP (fitsP t u) 7 x.pos (Except.ok () : Except Dg Unit)) = .error d ∧ stmtP k.p k.ret k.deep k.env (.mk 1 t n [x] b l at_) = .error d) ∨ (andT (exprP k.p k.env x) (fun u => mustP (fitsP t u) 7 x.pos (Except.ok () : Except Dg Unit)) = .ok () ∧ stmtP k.p k.ret k.deep k.env (.mk 1 t n [x] b l at_) = mustP (lookP k.env n).isNone 6 at_ (.ok (k.env ++ [⟨n, t, ⟨0, 0⟩⟩]))) := by
      rw [hP]
      cases exprP k.p k.env x with
      | error d => exact .inl ⟨d, rfl, rfl⟩
      | ok u =>
        simp only [andT_ok]
        cases fitsP t u with
        | true => exact .inr ⟨rfl, rfl⟩
        | false => exact .inl ⟨_, rfl, rfl⟩
    rcases hcase with ⟨d, r1, r2⟩ | ⟨r1, r2⟩
    · rw [r1, outU_err] at hfit
      refine goes_err (k' := k) r2 ?_
      have hd : G ext 82 [.ptr 0 0, .agg [.d (.int .i64 1), .d (.bool t.ptr), .d (.str t.to), .d (.str n), .d (.sl [[.int .i64 x.kind, .int .i64 x.n, .str x.name, .str x.op, .sl (x.kids.map Ex0.row), .int .i64 x.pos.line, .int .i64 x.pos.col]]), .d (.sl (b.map St0.row)), .d (.sl (l.map St0.row)), .d (.int .i64 at_.line), .d (.int .i64 at_.col)]] [nkO 1 2 k, nkS k, nkM k] = some (.pan (.iface 31 (.agg [.d (.int .i64 d.stage), .d (.int .i64 d.what), .d (.int .i64 d.pos.1), .d (.int .i64 d.pos.2)])), [nkO 1 2 k, nkS k, nkM k]) := by
        rw [G_body hx.clear rfl Try.func82 rfl Try.results82 hv_82 rfl]
        simp (maxSteps := 4000000) (disch := first | (intros; contradiction) | omega) only [go_sem, hkn, hm, hfit]
        done
      rw [G_body hx.clear rfl Try.func73 rfl Try.results73 hv_73 rfl]
      simp (maxSteps := 4000000) (disch := first | (intros; contradiction) | omega) only [go_sem, hd]
      done
    · rw [r1, outU_ok] at hfit
      have hfind := findM_env n k.env
      cases hlk : lookP k.env n with
      | some u =>
        rw [hlk] at hfind r2
        simp only [Option.map_some, tpA] at hfind
        rw [Option.isNone_some, must_f] at r2
        have hm2 := nmust_f hx 6 at_.line at_.col
        refine goes_err (k' := k) r2 ?_
        have hd : G ext 82 [.ptr 0 0, .agg [.d (.int .i64 1), .d (.bool t.ptr), .d (.str t.to), .d (.str n), .d (.sl [[.int .i64 x.kind, .int .i64 x.n, .str x.name, .str x.op, .sl (x.kids.map Ex0.row), .int .i64 x.pos.line, .int .i64 x.pos.col]]), .d (.sl (b.map St0.row)), .d (.sl (l.map St0.row)), .d (.int .i64 at_.line), .d (.int .i64 at_.col)]] [nkO 1 2 k, nkS k, nkM k] = some (.pan (.iface 31 (.agg [.d (.int .i64 4), .d (.int .i64 6), .d (.int .i64 at_.line), .d (.int .i64 at_.col)])), [nkO 1 2 k, nkS k, nkM k]) := by
          rw [G_body hx.clear rfl Try.func82 rfl Try.results82 hv_82 rfl]
          simp (maxSteps := 4000000) (disch := first | (intros; contradiction) | omega) only [go_sem, hkn, hm, hfit, hfind, hm2]
          done
        rw [G_body hx.clear rfl Try.func73 rfl Try.results73 hv_73 rfl]
        simp (maxSteps := 4000000) (disch := first | (intros; contradiction) | omega) only [go_sem, hd]
        done
      | none =>
        rw [hlk] at hfind r2
        simp only [Option.map_none] at hfind
        rw [Option.isNone_none, must_t] at r2
        have hm2 := nmust_t hx 6 at_.line at_.col
        have hdec := ndeclare_e hx k n t ⟨0, 0⟩ hlk (by omega)
        refine goes_ok (k' := k.push ⟨n, t, ⟨0, 0⟩⟩) r2 ?_ ⟨rfl, rfl, rfl⟩ rfl (nodup_push hq.nd hlk)
        have hd : G ext 82 [.ptr 0 0, .agg [.d (.int .i64 1), .d (.bool t.ptr), .d (.str t.to), .d (.str n), .d (.sl [[.int .i64 x.kind, .int .i64 x.n, .str x.name, .str x.op, .sl (x.kids.map Ex0.row), .int .i64 x.pos.line, .int .i64 x.pos.col]]), .d (.sl (b.map St0.row)), .d (.sl (l.map St0.row)), .d (.int .i64 at_.line), .d (.int .i64 at_.col)]] [nkO 1 2 k, nkS k, nkM k] = some (.ret (.tuple []), [nkO 1 2 (k.push ⟨n, t, ⟨0, 0⟩⟩), nkS (k.push ⟨n, t, ⟨0, 0⟩⟩), nkM (k.push ⟨n, t, ⟨0, 0⟩⟩)]) := by
          rw [G_body hx.clear rfl Try.func82 rfl Try.results82 hv_82 rfl]
          simp (maxSteps := 4000000) (disch := first | (intros; contradiction) | omega) only [go_sem, hkn, hm, hfit, hfind, hm2, hdec]
          done
        rw [G_body hx.clear rfl Try.func73 rfl Try.results73 hv_73 rfl]
        simp (maxSteps := 4000000) (disch := first | (intros; contradiction) | omega) only [go_sem, hd]
        done
end Go.Proofs.Ythfollapianblaa
