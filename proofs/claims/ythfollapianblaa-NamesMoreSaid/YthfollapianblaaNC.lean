/- The document's checker: what it asks, and what is seen; The document's checker: expressions. Conditions: none. -/
import Derived.Test.YthfollapianblaaNB
set_option linter.unusedSimpArgs false
set_option linter.unusedVariables false
namespace Go.Proofs.Ythfollapianblaa
open Go Go.Ab
variable {ext : Sem'}
/-- The document's checker: of a program, a function; what is seen; the first fault; how many loops are around. -/
structure Ck where
  p : Pr0
  fo : Option Fn0
  seen : List Fl0
  d : Dg
  inn : Int
def fnC : Option Fn0 → Nat → AV
  | some f, 0 => .d (.str f.name)
  | some f, 1 => .d (.sl (f.params.map Fl0.row))
  | some f, 2 => .d (.bool f.ret.ptr)
  | some f, 3 => .d (.str f.ret.to)
  | some f, 4 => .d (.sl (f.body.map St0.row))
  | some f, 5 => .d (.int .i64 f.at_.line)
  | some f, 6 => .d (.int .i64 f.at_.col)
  | none, 0 => .d (.str [])
  | none, 1 => .full []
  | none, 2 => .d (.bool false)
  | none, 3 => .d (.str [])
  | none, 4 => .full []
  | none, 5 => .d (.int .i64 0)
  | none, 6 => .d (.int .i64 0)
  | _, _ => .any
theorem fnC_refs (o : Option Fn0) (k : Nat) : refs (fnC o k) = [] := by unfold fnC; split <;> rfl
theorem fnC_ren (f : Nat → Nat) (o : Option Fn0) (k : Nat) : ren f (fnC o k) = fnC o k := by unfold fnC; split <;> rfl
def ckL (c : Ck) (s : AV) : List AV := [.d (.sl (c.p.structs.map Sr0.row)), .d (.sl (c.p.funcs.map Fn0.row)), fnC c.fo 0, fnC c.fo 1, fnC c.fo 2, fnC c.fo 3, fnC c.fo 4, fnC c.fo 5, fnC c.fo 6, s, .d (.int .i64 c.d.stage), .d (.int .i64 c.d.what), .d (.int .i64 c.d.pos.1), .d (.int .i64 c.d.pos.2), .d (.int .i64 c.inn)]
theorem ckL_eq (c : Ck) (s : AV) : ckL c s = [.d (.sl (c.p.structs.map Sr0.row)), .d (.sl (c.p.funcs.map Fn0.row)), fnC c.fo 0, fnC c.fo 1, fnC c.fo 2, fnC c.fo 3, fnC c.fo 4, fnC c.fo 5, fnC c.fo 6, s, .d (.int .i64 c.d.stage), .d (.int .i64 c.d.what), .d (.int .i64 c.d.pos.1), .d (.int .i64 c.d.pos.2), .d (.int .i64 c.inn)] := rfl
/-- Its place, where what is seen is not changed any more; where that grows. -/
def ckO (c : Ck) : AObj := .cells (ckL c (.d (.sl (c.seen.map Fl0.row))))
def ckG (r e : Nat) (c : Ck) : AObj := .cells (ckL c (.grow r e (c.seen.map Fl0.row)))
theorem ckO_refs (c : Ck) : refsO (ckO c) = [] := by simp [ckO, ckL, refsO, fnC_refs, refs]
theorem ckO_ren (f : Nat → Nat) (c : Ck) : renO f (ckO c) = ckO c := by simp [ckO, ckL, renO, fnC_ren, ren]
theorem ckO_is (c : Ck) : isObj (ckO c) = true := rfl
theorem ckO_cells (c : Ck) : cellsOf (ckO c) = some [.d (.sl (c.p.structs.map Sr0.row)), .d (.sl (c.p.funcs.map Fn0.row)), fnC c.fo 0, fnC c.fo 1, fnC c.fo 2, fnC c.fo 3, fnC c.fo 4, fnC c.fo 5, fnC c.fo 6, .d (.sl (c.seen.map Fl0.row)), .d (.int .i64 c.d.stage), .d (.int .i64 c.d.what), .d (.int .i64 c.d.pos.1), .d (.int .i64 c.d.pos.2), .d (.int .i64 c.inn)] := rfl
theorem ckG_refs (r e : Nat) (c : Ck) : refsO (ckG r e c) = [r] := by simp [ckG, ckL, refsO, fnC_refs, refs]
theorem ckG_ren (f : Nat → Nat) (r e : Nat) (c : Ck) : renO f (ckG r e c) = ckG (f r) e c := by simp [ckG, ckL, renO, fnC_ren, ren]
theorem ckG_is (r e : Nat) (c : Ck) : isObj (ckG r e c) = true := rfl
theorem ckG_cells (r e : Nat) (c : Ck) : cellsOf (ckG r e c) = some [.d (.sl (c.p.structs.map Sr0.row)), .d (.sl (c.p.funcs.map Fn0.row)), fnC c.fo 0, fnC c.fo 1, fnC c.fo 2, fnC c.fo 3, fnC c.fo 4, fnC c.fo 5, fnC c.fo 6, .grow r e (c.seen.map Fl0.row), .d (.int .i64 c.d.stage), .d (.int .i64 c.d.what), .d (.int .i64 c.d.pos.1), .d (.int .i64 c.d.pos.2), .d (.int .i64 c.inn)] := rfl
attribute [go_sem] fnC_refs fnC_ren ckO_refs ckO_ren ckO_is ckO_cells ckG_refs ckG_ren ckG_is ckG_cells
def Ck.bad (c : Ck) : Bool := decide (c.d.what ≠ 0)
def Ck.setD (c : Ck) (d : Dg) : Ck := ⟨c.p, c.fo, c.seen, d, c.inn⟩
def Ck.ask (c : Ck) (b : Bool) (f : Int) (p : Int × Int) : Ck := if c.bad = true ∨ b = true then c else c.setD ⟨4, f, p⟩
/-- What a look says. -/
def lookAV : Option Tp → AV
  | some t => .tuple [.agg [.d (.bool t.ptr), .d (.str t.to)], .d (.bool true)]
  | none => .tuple [.agg [.d (.bool false), .d (.str [])], .d (.bool false)]
theorem cbad_e (hx : T0 ext) (c : Ck) : G ext 29 [.ptr 0 0] [ckO c] = some (.ret (.d (.bool c.bad)), [ckO c]) := by
  unfold Ck.bad
  rw [G_body hx.clear rfl Try.func29 rfl Try.results29 hv_29 rfl]
  by_cases h : c.d.what = 0
  · simp (maxSteps := 4000000) (disch := first | (intros; contradiction) | omega) only [go_sem, h]
    simp
  · simp (maxSteps := 4000000) (disch := first | (intros; contradiction) | omega) only [go_sem, h]
    simp [h]
set_option maxHeartbeats 1000000 in
theorem cask_e (hx : T0 ext) (c : Ck) (b : Bool) (f x y : Int) : G ext 28 [.ptr 0 0, .d (.bool b), .d (.int .i64 f), .agg [.d (.int .i64 x), .d (.int .i64 y)]] [ckO c] = some (.ret (.d (.bool (!(c.ask b f (x, y)).bad))), [ckO (c.ask b f (x, y))]) := by
  have h1 := cbad_e hx c
  cases hb : c.bad with
  | true =>
    have h3 : c.ask b f (x, y) = c := by unfold Ck.ask; rw [if_pos (.inl hb)]
    rw [h3, hb]
    rw [hb] at h1
    rw [G_body hx.clear rfl Try.func28 rfl Try.results28 hv_28 rfl]
    simp (maxSteps := 4000000) (disch := first | (intros; contradiction) | omega) only [go_sem, h1]
    done
  | false =>
    rw [hb] at h1
    cases b with
    | true =>
      have h3 : c.ask true f (x, y) = c := by unfold Ck.ask; rw [if_pos (.inr rfl)]
      rw [h3, hb]
      rw [G_body hx.clear rfl Try.func28 rfl Try.results28 hv_28 rfl]
      simp (maxSteps := 4000000) (disch := first | (intros; contradiction) | omega) only [go_sem, h1]
      done
    | false =>
      have h3 : c.ask false f (x, y) = c.setD ⟨4, f, (x, y)⟩ := by unfold Ck.ask; rw [if_neg (by simp [hb])]
      rw [h3]
      have h2 := cbad_e hx (c.setD ⟨4, f, (x, y)⟩)
      have h4 : AObj.cells [.d (.sl (c.p.structs.map Sr0.row)), .d (.sl (c.p.funcs.map Fn0.row)), fnC c.fo 0, fnC c.fo 1, fnC c.fo 2, fnC c.fo 3, fnC c.fo 4, fnC c.fo 5, fnC c.fo 6, .d (.sl (c.seen.map Fl0.row)), .d (.int .i64 4), .d (.int .i64 f), .d (.int .i64 x), .d (.int .i64 y), .d (.int .i64 c.inn)] = ckO (c.setD ⟨4, f, (x, y)⟩) := rfl
      rw [G_body hx.clear rfl Try.func28 rfl Try.results28 hv_28 rfl]
      simp (maxSteps := 4000000) (disch := first | (intros; contradiction) | omega) only [go_sem, h1, h4, h2]
      done
theorem cknown_e (hx : T0 ext) (c : Ck) (t : Tp) (hl : c.p.structs.length ≤ 1000000) : G ext 53 [.ptr 0 0, .agg [.d (.bool t.ptr), .d (.str t.to)]] [ckO c] = some (.ret (.d (.bool (knownP c.p t))), [ckO c]) := by
  have h := rstruct_e hx c.p t.to hl
  unfold Pr0.av at h
  unfold knownP
  rw [G_body hx.clear rfl Try.func53 rfl Try.results53 hv_53 rfl]
  cases hp : t.ptr with
  | false =>
    simp (maxSteps := 4000000) (disch := first | (intros; contradiction) | omega) only [go_sem, h]
    try simp
  | true =>
    by_cases hi : 0 ≤ idxN (nmS t.to) c.p.structs
    · simp (maxSteps := 4000000) (disch := first | (intros; contradiction) | omega) only [go_sem, h, hi]
      try simp [hi]
    · simp (maxSteps := 4000000) (disch := first | (intros; contradiction) | omega) only [go_sem, h, hi]
      try simp [hi]
theorem clook_e (hx : T0 ext) (c : Ck) (n : Str) (hs : c.seen.length ≤ 1000000) : G ext 54 [.ptr 0 0, .d (.str n)] [ckO c] = some (.ret (lookAV (lookP c.seen n)), [ckO c]) := by
  have hll : (c.seen.map Fl0.row).length = c.seen.length := List.length_map _
  rw [G_body hx.clear rfl Try.func54 rfl Try.results54 hv_54 rfl]
  simp (maxSteps := 4000000) (disch := first | (intros; contradiction) | omega) only [go_sem]
  generalize hL : loopA _ _ _ = L
  apply range_upd hL (by simp (maxSteps := 4000000) (disch := first | (intros; contradiction) | omega) only [go_sem] <;> rfl) c.seen Fl0.row (α := Unit) (fun rest k _ => lookP c.seen n = lookP rest n) (fun k _ => [(6, .d (.int .i64 k))]) (fun _ _ => []) () (by simp (maxSteps := 4000000) (disch := first | (intros; contradiction) | omega) only [go_sem] <;> rfl) rfl ?_ ?_
  · intro x rest k _ hi hlt hr hxx hk _ next ih
    clear hL
    simp only [Fl0.row] at hr
    have hk0 : (0 : Int) ≤ (k : Int) := by omega
    have hwk : IntKind.wrap .i64 ((k : Int) + 1) = ((k + 1 : Nat) : Int) := by rw [wrap64 (by omega) (by omega)]; omega
    by_cases hn : x.name = n
    · have h1 : lookP c.seen n = some x.t := by rw [hi]; simp [lookP, hn]
      rw [h1]
      unfold lookAV
      simp (maxSteps := 4000000) (disch := first | (intros; contradiction) | omega) only [go_sem, hlt, hr, hk0, hn]
      done
    · simp (maxSteps := 4000000) (disch := first | (intros; contradiction) | omega) only [go_sem, hlt, hr, hk0, hn, hwk]
      exact ih () _ (by rw [hi]; simp [lookP, hn]) (by simp (maxSteps := 4000000) (disch := first | (intros; contradiction) | omega) only [go_sem] <;> rfl)
  · intro k _ hi hlt hk next
    clear hL
    have h1 : lookP c.seen n = none := by rw [hi]; rfl
    rw [h1]
    unfold lookAV
    simp (maxSteps := 4000000) (disch := first | (intros; contradiction) | omega) only [go_sem, hlt]
    done
theorem cbadG_e (hx : T0 ext) (c : Ck) (e : Nat) : G ext 29 [.ptr 0 0] [ckG 1 e c, .grow e 5] = some (.ret (.d (.bool c.bad)), [ckG 1 e c, .grow e 5]) := by
  unfold Ck.bad
  rw [G_body hx.clear rfl Try.func29 rfl Try.results29 hv_29 rfl]
  by_cases h : c.d.what = 0
  · simp (maxSteps := 4000000) (disch := first | (intros; contradiction) | omega) only [go_sem, h]
    simp
  · simp (maxSteps := 4000000) (disch := first | (intros; contradiction) | omega) only [go_sem, h]
    simp [h]
set_option maxHeartbeats 1000000 in
theorem caskG_e (hx : T0 ext) (c : Ck) (e : Nat) (b : Bool) (f x y : Int) : G ext 28 [.ptr 0 0, .d (.bool b), .d (.int .i64 f), .agg [.d (.int .i64 x), .d (.int .i64 y)]] [ckG 1 e c, .grow e 5] = some (.ret (.d (.bool (!(c.ask b f (x, y)).bad))), [ckG 1 e (c.ask b f (x, y)), .grow e 5]) := by
  have h1 := cbadG_e hx c e
  cases hb : c.bad with
  | true =>
    have h3 : c.ask b f (x, y) = c := by unfold Ck.ask; rw [if_pos (.inl hb)]
    rw [h3, hb]
    rw [hb] at h1
    rw [G_body hx.clear rfl Try.func28 rfl Try.results28 hv_28 rfl]
    simp (maxSteps := 4000000) (disch := first | (intros; contradiction) | omega) only [go_sem, h1]
    done
  | false =>
    rw [hb] at h1
    cases b with
    | true =>
      have h3 : c.ask true f (x, y) = c := by unfold Ck.ask; rw [if_pos (.inr rfl)]
      rw [h3, hb]
      rw [G_body hx.clear rfl Try.func28 rfl Try.results28 hv_28 rfl]
      simp (maxSteps := 4000000) (disch := first | (intros; contradiction) | omega) only [go_sem, h1]
      done
    | false =>
      have h3 : c.ask false f (x, y) = c.setD ⟨4, f, (x, y)⟩ := by unfold Ck.ask; rw [if_neg (by simp [hb])]
      rw [h3]
      have h2 := cbadG_e hx (c.setD ⟨4, f, (x, y)⟩) e
      have h4 : AObj.cells [.d (.sl (c.p.structs.map Sr0.row)), .d (.sl (c.p.funcs.map Fn0.row)), fnC c.fo 0, fnC c.fo 1, fnC c.fo 2, fnC c.fo 3, fnC c.fo 4, fnC c.fo 5, fnC c.fo 6, .grow 1 e (c.seen.map Fl0.row), .d (.int .i64 4), .d (.int .i64 f), .d (.int .i64 x), .d (.int .i64 y), .d (.int .i64 c.inn)] = ckG 1 e (c.setD ⟨4, f, (x, y)⟩) := rfl
      rw [G_body hx.clear rfl Try.func28 rfl Try.results28 hv_28 rfl]
      simp (maxSteps := 4000000) (disch := first | (intros; contradiction) | omega) only [go_sem, h1, h4, h2]
      done
theorem cknownG_e (hx : T0 ext) (c : Ck) (e : Nat) (t : Tp) (hl : c.p.structs.length ≤ 1000000) : G ext 53 [.ptr 0 0, .agg [.d (.bool t.ptr), .d (.str t.to)]] [ckG 1 e c, .grow e 5] = some (.ret (.d (.bool (knownP c.p t))), [ckG 1 e c, .grow e 5]) := by
  have h := rstruct_e hx c.p t.to hl
  unfold Pr0.av at h
  unfold knownP
  rw [G_body hx.clear rfl Try.func53 rfl Try.results53 hv_53 rfl]
  cases hp : t.ptr with
  | false =>
    simp (maxSteps := 4000000) (disch := first | (intros; contradiction) | omega) only [go_sem, h]
    try simp
  | true =>
    by_cases hi : 0 ≤ idxN (nmS t.to) c.p.structs
    · simp (maxSteps := 4000000) (disch := first | (intros; contradiction) | omega) only [go_sem, h, hi]
      try simp [hi]
    · simp (maxSteps := 4000000) (disch := first | (intros; contradiction) | omega) only [go_sem, h, hi]
      try simp [hi]
theorem clookG_e (hx : T0 ext) (c : Ck) (e : Nat) (n : Str) (hs : c.seen.length ≤ 1000000) : G ext 54 [.ptr 0 0, .d (.str n)] [ckG 1 e c, .grow e 5] = some (.ret (lookAV (lookP c.seen n)), [ckG 1 e c, .grow e 5]) := by
  have hll : (c.seen.map Fl0.row).length = c.seen.length := List.length_map _
  rw [G_body hx.clear rfl Try.func54 rfl Try.results54 hv_54 rfl]
  simp (maxSteps := 4000000) (disch := first | (intros; contradiction) | omega) only [go_sem]
  generalize hL : loopA _ _ _ = L
  apply range_upd hL (by simp (maxSteps := 4000000) (disch := first | (intros; contradiction) | omega) only [go_sem] <;> rfl) c.seen Fl0.row (α := Unit) (fun rest k _ => lookP c.seen n = lookP rest n) (fun k _ => [(6, .d (.int .i64 k))]) (fun _ _ => []) () (by simp (maxSteps := 4000000) (disch := first | (intros; contradiction) | omega) only [go_sem] <;> rfl) rfl ?_ ?_
  · intro x rest k _ hi hlt hr hxx hk _ next ih
    clear hL
    simp only [Fl0.row] at hr
    have hk0 : (0 : Int) ≤ (k : Int) := by omega
    have hwk : IntKind.wrap .i64 ((k : Int) + 1) = ((k + 1 : Nat) : Int) := by rw [wrap64 (by omega) (by omega)]; omega
    by_cases hn : x.name = n
    · have h1 : lookP c.seen n = some x.t := by rw [hi]; simp [lookP, hn]
      rw [h1]
      unfold lookAV
      simp (maxSteps := 4000000) (disch := first | (intros; contradiction) | omega) only [go_sem, hlt, hr, hk0, hn]
      done
    · simp (maxSteps := 4000000) (disch := first | (intros; contradiction) | omega) only [go_sem, hlt, hr, hk0, hn, hwk]
      exact ih () _ (by rw [hi]; simp [lookP, hn]) (by simp (maxSteps := 4000000) (disch := first | (intros; contradiction) | omega) only [go_sem] <;> rfl)
  · intro k _ hi hlt hk next
    clear hL
    have h1 : lookP c.seen n = none := by rw [hi]; rfl
    rw [h1]
    unfold lookAV
    simp (maxSteps := 4000000) (disch := first | (intros; contradiction) | omega) only [go_sem, hlt]
    done
theorem cpoints_e (hx : T0 ext) (t : Tp) : G ext 75 [.agg [.d (.bool t.ptr), .d (.str t.to)]] [] = some (.ret (.d (.bool (pointsP t))), []) := by
  unfold pointsP
  rw [G_body hx.clear rfl Try.func75 rfl Try.results75 hv_75 rfl]
  cases hp : t.ptr with
  | false =>
    simp (maxSteps := 4000000) (disch := first | (intros; contradiction) | omega) only [go_sem]
    try simp
  | true =>
    by_cases hn : t.to = []
    · simp (maxSteps := 4000000) (disch := first | (intros; contradiction) | omega) only [go_sem, hn]
      try simp
    · simp (maxSteps := 4000000) (disch := first | (intros; contradiction) | omega) only [go_sem, hn]
      try simp [hn]
end Go.Proofs.Ythfollapianblaa
namespace Go.Proofs.Ythfollapianblaa
open Go Go.Ab
variable {ext : Sem'}
structure OkC (c : Ck) : Prop where
  p : OkP c.p
  seen : c.seen.length ≤ 1000000
theorem ask_p (c : Ck) (b : Bool) (f : Int) (q : Int × Int) : (c.ask b f q).p = c.p := by unfold Ck.ask; split <;> rfl
theorem ask_seen (c : Ck) (b : Bool) (f : Int) (q : Int × Int) : (c.ask b f q).seen = c.seen := by unfold Ck.ask; split <;> rfl
theorem OkC.ask {c : Ck} (h : OkC c) (b : Bool) (f : Int) (q : Int × Int) : OkC (c.ask b f q) := ⟨by rw [ask_p]; exact h.p, by rw [ask_seen]; exact h.seen⟩
theorem OkC.setD {c : Ck} (h : OkC c) (d : Dg) : OkC (c.setD d) := ⟨h.p, h.seen⟩
theorem ask_bad {c : Ck} (h : c.bad = true) (b : Bool) (f : Int) (q : Int × Int) : c.ask b f q = c := by unfold Ck.ask; rw [if_pos (.inl h)]
theorem ask_true (c : Ck) (f : Int) (q : Int × Int) : c.ask true f q = c := by unfold Ck.ask; rw [if_pos (.inr rfl)]
theorem ask_false {c : Ck} (h : c.bad = false) (f : Int) (q : Int × Int) : c.ask false f q = c.setD ⟨4, f, q⟩ := by unfold Ck.ask; rw [if_neg (by simp [h])]
theorem setD_bad (c : Ck) {d : Dg} (h : d.what ≠ 0) : (c.setD d).bad = true := by simp [Ck.bad, Ck.setD, h]
/-- What a walk through an expression leaves. -/
def RelE (c : Ck) (x : Except Dg Tp) (t : Tp) (c' : Ck) : Prop := OkC c' ∧ (c.bad = true → c' = c) ∧ (c.bad = false → (∀ u, x = .ok u → t = u ∧ c' = c) ∧ ∀ d, x = .error d → c' = c.setD d ∧ d.what ≠ 0)
def ExprC (ext : Sem') (c : Ck) (e : Ex0) : Prop := ∃ t c', G ext 74 [.ptr 0 0, e.agg] [ckO c] = some (.ret (.agg [.d (.bool t.ptr), .d (.str t.to)]), [ckO c']) ∧ RelE c (exprP c.p c.seen e) t c'
theorem idxN_get {α : Type} {p : α → Bool} {l : List α} : (idxN p l < 0 ∧ (idxP p l).bind (fun i => l[i]?) = none) ∨ ∃ (i : Nat) (x : α), idxN p l = (i : Int) ∧ i < l.length ∧ l[i]? = some x ∧ (idxP p l).bind (fun i => l[i]?) = some x := by
  unfold idxN
  cases h : idxP p l with
  | none => exact .inl ⟨by decide, rfl⟩
  | some i =>
    have hl := idxP_lt h
    exact .inr ⟨i, l[i], rfl, hl, List.getElem?_eq_getElem hl, by simp [List.getElem?_eq_getElem hl]⟩
theorem RelE.good {c c' : Ck} {x : Except Dg Tp} {t : Tp} (h : RelE c x t c') (hb : c.bad = false) : (∃ u, x = .ok u ∧ t = u ∧ c' = c) ∨ ∃ d, x = .error d ∧ c' = c.setD d ∧ c'.bad = true ∧ d.what ≠ 0 := by
  obtain ⟨_, _, h2⟩ := h
  obtain ⟨h3, h4⟩ := h2 hb
  cases x with
  | ok u => exact .inl ⟨u, rfl, h3 u rfl⟩
  | error d =>
    obtain ⟨h5, h6⟩ := h4 d rfl
    exact .inr ⟨d, rfl, h5, by rw [h5]; exact setD_bad c h6, h6⟩
theorem rel_ok {c : Ck} (hc : OkC c) {t : Tp} : RelE c (.ok t) t c := ⟨hc, fun _ => rfl, fun _ => ⟨fun u h => by cases h; exact ⟨rfl, rfl⟩, fun d h => by cases h⟩⟩
theorem rel_bad {c : Ck} (hc : OkC c) (hb : c.bad = true) {x : Except Dg Tp} {t : Tp} : RelE c x t c := ⟨hc, fun _ => rfl, fun h => by rw [hb] at h; cases h⟩
theorem rel_err {c : Ck} (hc : OkC c) (hb : c.bad = false) {d : Dg} (hd : d.what ≠ 0) {t : Tp} : RelE c (.error d) t (c.setD d) := ⟨hc.setD d, (fun h => by rw [hb] at h; cases h), fun _ => ⟨(fun u h => by cases h), fun d' h => by cases h; exact ⟨rfl, hd⟩⟩⟩
/-- Something that must be so. -/
theorem rel_must {c : Ck} (hc : OkC c) (hb : c.bad = false) {b : Bool} {f : Int} (hf : f ≠ 0) {p : Po} {t u : Tp} (ht : b = true → t = u) : RelE c (mustP b f p (.ok u)) t (c.ask b f (p.line, p.col)) := by
  cases b with
  | true => rw [ask_true]; rw [ht rfl]; exact rel_ok hc
  | false => rw [ask_false hb]; exact rel_err hc hb hf
theorem exprsP_map (p : Pr0) (env : List Fl0) : ∀ l, exprsP p env l = l.map (exprP p env)
  | [] => by simp [exprsP]
  | x :: l => by simp [exprsP, exprsP_map p env l]
set_option maxHeartbeats 4000000 in
theorem ccall_e (hx : T0 ext) {c : Ck} (hc : OkC c) (hb : c.bad = false) (n : Int) (s o : Str) (ks : List Ex0) (at_ : Po) (hk : ks.length ≤ 1000000) (ih : ∀ x, x ∈ ks → ∀ c, OkC c → ExprC ext c x) :
    ∃ t c', G ext 89 [.ptr 0 0, (Ex0.mk 9 n s o ks at_).agg] [ckO c] = some (.ret (.agg [.d (.bool t.ptr), .d (.str t.to)]), [ckO c']) ∧ RelE c (exprP c.p c.seen (.mk 9 n s o ks at_)) t c' := by
  have hfn := rfunc_e hx c.p s hc.p.funcs
  unfold Pr0.av at hfn
  have hll : (ks.map Ex0.row).length = ks.length := List.length_map _
  unfold Ex0.agg
  simp only [Ex0.kind, Ex0.n, Ex0.name, Ex0.op, Ex0.kids, Ex0.pos, exprP]
  unfold exprK
  simp only [Int.reduceEq, if_false, if_true]
  rcases idxN_get (p := nmF s) (l := c.p.funcs) with ⟨i1, i2⟩ | ⟨i, f, i1, i2, i3, i4⟩
  · rw [i2]
    have ha := cask_e hx c false 5 at_.line at_.col
    have i0 : ¬ (0 : Int) ≤ idxN (nmF s) c.p.funcs := by omega
    have hr := ask_false hb 5 (at_.line, at_.col)
    have hbd : (c.setD ⟨4, 5, (at_.line, at_.col)⟩).bad = true := setD_bad c (show (5 : Int) ≠ 0 by decide)
    rw [hr, hbd] at ha
    refine ⟨⟨false, []⟩, c.setD ⟨4, 5, (at_.line, at_.col)⟩, ?_, rel_err hc hb (show (5 : Int) ≠ 0 by decide)⟩
    rw [G_body hx.clear rfl Try.func89 rfl Try.results89 hv_89 rfl]
    simp (maxSteps := 4000000) (disch := first | (intros; contradiction) | omega) only [go_sem, hfn, i0, ha]
    done
  · rw [i4]
    have ha := cask_e hx c true 5 at_.line at_.col
    rw [ask_true, hb] at ha
    rw [i1] at hfn
    have i0 : (0 : Int) ≤ (i : Int) := by omega
    have hmem := List.mem_of_getElem? i3
    have hfp := hc.p.params f hmem
    have hfl : (c.p.funcs.map Fn0.row).length = c.p.funcs.length := List.length_map _
    have hrow : (c.p.funcs.map Fn0.row)[i]? = some (Fn0.row f) := by rw [List.getElem?_map, i3]; rfl
    simp only [Fn0.row] at hrow
    have i5 : (i : Int) < ((c.p.funcs.map Fn0.row).length : Int) := by omega
    have hpl : (f.params.map Fl0.row).length = f.params.length := List.length_map _
    rw [G_body hx.clear rfl Try.func89 rfl Try.results89 hv_89 rfl]
    simp only [gotP]
    by_cases hlen : f.params.length = ks.length
    · have ha2 := cask_e hx c true 7 at_.line at_.col
      rw [ask_true, hb] at ha2
      have hlen' : (f.params.length : Int) = (ks.length : Int) := by omega
      have hle2 := eq_true hlen'
      simp only [hlen, decide_true, mustP, if_true]
      simp (maxSteps := 4000000) (disch := first | (intros; contradiction) | omega) only [go_sem, hfn, i0, ha, hrow, hpl, hll, hle2, ha2]
      generalize hL : loopA _ _ _ = L
      have hrs := exprsP_map c.p c.seen ks
      generalize hA : argsK f.params ks (exprsP c.p c.seen ks) = A
      apply loop_upd hL (by simp (maxSteps := 4000000) (disch := first | (intros; contradiction) | omega) only [go_sem] <;> rfl) (fun x : Nat × Ck => OkC x.2 ∧ x.1 ≤ ks.length ∧ ((x.2 = c ∧ A = argsK (f.params.drop x.1) (ks.drop x.1) ((exprsP c.p c.seen ks).drop x.1)) ∨ ∃ d, A = .error d ∧ d.what ≠ 0 ∧ x.2 = c.setD d)) (fun x => ks.length - x.1) (fun x => [(7, .d (.int .i64 x.1)), (8, .any)]) (fun x => [(0, ckO x.2)]) (0, c) (by simp (maxSteps := 4000000) (disch := first | (intros; contradiction) | omega) only [go_sem] <;> rfl) ⟨hc, Nat.zero_le _, .inl ⟨rfl, hA.symm⟩⟩ ?_
      clear hL
      rintro ⟨k, c1⟩ ⟨h1, h2, h3⟩ next ihl
      simp only at h1 h2 h3 ihl ⊢
      have hbd := cbad_e hx c1
      have hk0 : (0 : Int) ≤ (k : Int) := by omega
      rcases h3 with ⟨rfl, h3⟩ | ⟨d, d1, d2, d3⟩
      · rw [hb] at hbd
        by_cases hkl : k < ks.length
        · have hlt : (k : Int) < (ks.length : Int) := by omega
          have hx1 : ks[k]? = some ks[k] := List.getElem?_eq_getElem hkl
          have hxm := List.mem_of_getElem? hx1
          have hq1 : f.params[k]? = some (f.params[k]'(by omega)) := List.getElem?_eq_getElem (by omega)
          have hr1 : (ks.map Ex0.row)[k]? = some (Ex0.row ks[k]) := by rw [List.getElem?_map, hx1]; rfl
          have hr2 : (f.params.map Fl0.row)[k]? = some (Fl0.row (f.params[k]'(by omega))) := by rw [List.getElem?_map, hq1]; rfl
          have hd1 : ks.drop k = ks[k] :: ks.drop (k + 1) := List.drop_eq_getElem_cons hkl
          have hd2 : f.params.drop k = (f.params[k]'(by omega)) :: f.params.drop (k + 1) := List.drop_eq_getElem_cons (by omega)
          have hd3 : (exprsP c1.p c1.seen ks).drop k = exprP c1.p c1.seen ks[k] :: (exprsP c1.p c1.seen ks).drop (k + 1) := by
            rw [List.drop_eq_getElem_cons (by rw [hrs, List.length_map]; exact hkl)]
            congr 1
            simp [hrs]
          rw [hd1, hd2, hd3] at h3
          simp only [argsK] at h3
          generalize ks[k] = x at hx1 hxm hr1 h3
          generalize f.params[k]'(by omega) = q at hq1 hr2 h3
          rw [Ex0.row_eq] at hr1
          simp only [Fl0.row] at hr2
          obtain ⟨t, c2, e1, e2⟩ := ih x hxm c1 hc
          have hfit := rfits_e hx q.t t
          unfold Tp.av at hfit
          have hask := cask_e hx c2 (fitsP q.t t) 7 x.pos.line x.pos.col
          unfold Ex0.agg at e1
          have hwk : IntKind.wrap .i64 ((k : Int) + 1) = ((k + 1 : Nat) : Int) := by rw [wrap64 (by omega) (by omega)]; omega
          have hok3 : OkC (c2.ask (fitsP q.t t) 7 (x.pos.line, x.pos.col)) := e2.1.ask _ _ _
          have hnew : (c2.ask (fitsP q.t t) 7 (x.pos.line, x.pos.col) = c1 ∧ A = argsK (f.params.drop (k + 1)) (ks.drop (k + 1)) ((exprsP c1.p c1.seen ks).drop (k + 1))) ∨ ∃ d, A = .error d ∧ d.what ≠ 0 ∧ c2.ask (fitsP q.t t) 7 (x.pos.line, x.pos.col) = c1.setD d := by
            rcases e2.good hb with ⟨u, u1, u2, u3⟩ | ⟨d, u1, u2, u3, u4⟩
            · subst u2 u3
              rw [u1] at h3
              simp only [andT] at h3
              cases hft : fitsP q.t t with
              | true =>
                rw [hft] at h3
                simp only [mustP, if_true] at h3
                exact .inl ⟨ask_true _ _ _, h3⟩
              | false =>
                rw [hft] at h3
                simp only [mustP, Bool.false_eq_true, if_false, err] at h3
                exact .inr ⟨_, h3, show (7 : Int) ≠ 0 by decide, ask_false hb _ _⟩
            · rw [u1] at h3
              simp only [andT] at h3
              exact .inr ⟨d, h3, u4, by rw [ask_bad u3]; exact u2⟩
          generalize c2.ask (fitsP q.t t) 7 (x.pos.line, x.pos.col) = c3 at hask hok3 hnew
          simp (maxSteps := 4000000) (disch := first | (intros; contradiction) | omega) only [go_sem, hll, hlt, hbd, hk0, hr1, e1, hpl, hr2, hfit, hask, hwk]
          exact ihl (k + 1, c3) _ ⟨hok3, by omega, hnew⟩ (by omega) (by simp (maxSteps := 4000000) (disch := first | (intros; contradiction) | omega) only [go_sem] <;> rfl)
        · have hlt : ¬ (k : Int) < (ks.length : Int) := by omega
          have hke : k = ks.length := by omega
          subst hke
          rw [List.drop_length, List.drop_eq_nil_of_le (by omega)] at h3
          simp only [argsK] at h3
          rw [h3]
          refine ⟨f.ret, c1, ?_, rel_ok hc⟩
          simp (maxSteps := 4000000) (disch := first | (intros; contradiction) | omega) only [go_sem, hll, hlt, hbd]
          done
      · have hbd' : c1.bad = true := by rw [d3]; exact setD_bad c d2
        rw [hbd'] at hbd
        rw [d1]
        refine ⟨f.ret, c1, ?_, by rw [d3]; exact rel_err hc hb d2⟩
        by_cases hkl : (k : Int) < (ks.length : Int)
        · simp (maxSteps := 4000000) (disch := first | (intros; contradiction) | omega) only [go_sem, hll, hkl, hbd]
          done
        · simp (maxSteps := 4000000) (disch := first | (intros; contradiction) | omega) only [go_sem, hll, hkl, hbd]
          done
    · have ha2 := cask_e hx c false 7 at_.line at_.col
      have hbe : (c.setD ⟨4, 7, (at_.line, at_.col)⟩).bad = true := setD_bad c (show (7 : Int) ≠ 0 by decide)
      rw [ask_false hb, hbe] at ha2
      have hlen' : ¬ (f.params.length : Int) = (ks.length : Int) := by omega
      have hbd := cbad_e hx (c.setD ⟨4, 7, (at_.line, at_.col)⟩)
      rw [hbe] at hbd
      simp only [hlen, decide_false, mustP, Bool.false_eq_true, if_false, err]
      refine ⟨f.ret, _, ?_, rel_err hc hb (show (7 : Int) ≠ 0 by decide)⟩
      generalize c.setD ⟨4, 7, (at_.line, at_.col)⟩ = c2 at ha2 hbd ⊢
      simp (maxSteps := 4000000) (disch := first | (intros; contradiction) | omega) only [go_sem, hfn, i0, ha, hrow, hpl, hll, hlen', ha2]
      generalize hL : loopA _ _ _ = L
      rw [loopA_eq] at hL
      subst hL
      by_cases hkl : (0 : Int) < (ks.length : Int)
      · simp (maxSteps := 4000000) (disch := first | (intros; contradiction) | omega) only [go_sem, hll, hkl, hbd]
        done
      · simp (maxSteps := 4000000) (disch := first | (intros; contradiction) | omega) only [go_sem, hll, hkl, hbd]
        done
end Go.Proofs.Ythfollapianblaa
