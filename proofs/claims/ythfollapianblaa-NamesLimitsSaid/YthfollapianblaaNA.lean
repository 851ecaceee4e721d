/- The first language's programs, as data; names: structs, functions and fields by their names; which types fit; names: functions and fields by their names; which types fit; names: which types fit; which statements end; The document's names: structs, functions, fields; which types fit; which statements end; The document's names: fields; which statements end; The document's fields by names. Conditions: none. -/
import Derived.Test.YthfollapianblaaTA
import Derived.Test.YthfollapianblaaHints
import Derived.Test.YthfollapianblaaTy
import Derived.Test.YthfollapianblaaLp
import Derived.Test.YthfollapianblaaAbX7
set_option linter.unusedSimpArgs false
set_option linter.unusedVariables false
namespace Go.Proofs.Ythfollapianblaa
open Go Go.Ab
abbrev Str := List UInt8
/-- A place. -/
structure Po where
  line : Int
  col : Int
  deriving DecidableEq
def Po.row (p : Po) : List Dt := [.int .i64 p.line, .int .i64 p.col]
/-- A type. -/
structure Tp where
  ptr : Bool
  to : Str
  deriving DecidableEq
def Tp.row (t : Tp) : List Dt := [.bool t.ptr, .str t.to]
/-- An expression. -/
inductive Ex0 where
  | mk (kind n : Int) (name op : Str) (kids : List Ex0) (at_ : Po)
mutual
def Ex0.row : Ex0 → List Dt
  | .mk k n s o ks p => [.int .i64 k, .int .i64 n, .str s, .str o, .sl (Ex0.rows ks)] ++ p.row
def Ex0.rows : List Ex0 → List (List Dt)
  | [] => []
  | e :: l => e.row :: Ex0.rows l
end
theorem Ex0.rows_map : ∀ l : List Ex0, Ex0.rows l = l.map Ex0.row
  | [] => by simp [Ex0.rows]
  | e :: l => by simp [Ex0.rows, Ex0.rows_map l]
def Ex0.kind : Ex0 → Int | .mk k _ _ _ _ _ => k
def Ex0.n : Ex0 → Int | .mk _ n _ _ _ _ => n
def Ex0.name : Ex0 → Str | .mk _ _ s _ _ _ => s
def Ex0.op : Ex0 → Str | .mk _ _ _ o _ _ => o
def Ex0.kids : Ex0 → List Ex0 | .mk _ _ _ _ ks _ => ks
def Ex0.pos : Ex0 → Po | .mk _ _ _ _ _ p => p
theorem Ex0.row_eq (e : Ex0) : e.row = [.int .i64 e.kind, .int .i64 e.n, .str e.name, .str e.op, .sl (e.kids.map Ex0.row), .int .i64 e.pos.line, .int .i64 e.pos.col] := by
  cases e with
  | mk k n s o ks p => simp [Ex0.row, Ex0.rows_map, Ex0.kind, Ex0.n, Ex0.name, Ex0.op, Ex0.kids, Ex0.pos, Po.row]
/-- A statement. -/
inductive St0 where
  | mk (kind : Int) (t : Tp) (name : Str) (e : List Ex0) (body els : List St0) (at_ : Po)
mutual
def St0.row : St0 → List Dt
  | .mk k t s e b l p => [.int .i64 k] ++ t.row ++ [.str s, .sl (e.map Ex0.row), .sl (St0.rows b), .sl (St0.rows l)] ++ p.row
def St0.rows : List St0 → List (List Dt)
  | [] => []
  | e :: l => e.row :: St0.rows l
end
theorem St0.rows_map : ∀ l : List St0, St0.rows l = l.map St0.row
  | [] => by simp [St0.rows]
  | e :: l => by simp [St0.rows, St0.rows_map l]
def St0.kind : St0 → Int | .mk k _ _ _ _ _ _ => k
def St0.t : St0 → Tp | .mk _ t _ _ _ _ _ => t
def St0.name : St0 → Str | .mk _ _ s _ _ _ _ => s
def St0.e : St0 → List Ex0 | .mk _ _ _ e _ _ _ => e
def St0.body : St0 → List St0 | .mk _ _ _ _ b _ _ => b
def St0.els : St0 → List St0 | .mk _ _ _ _ _ l _ => l
def St0.pos : St0 → Po | .mk _ _ _ _ _ _ p => p
theorem St0.row_eq (s : St0) : s.row = [.int .i64 s.kind, .bool s.t.ptr, .str s.t.to, .str s.name, .sl (s.e.map Ex0.row), .sl (s.body.map St0.row), .sl (s.els.map St0.row), .int .i64 s.pos.line, .int .i64 s.pos.col] := by
  cases s with
  | mk k t n e b l p => simp [St0.row, St0.rows_map, St0.kind, St0.t, St0.name, St0.e, St0.body, St0.els, St0.pos, Po.row, Tp.row]
/-- A field, or a parameter. -/
structure Fl0 where
  name : Str
  t : Tp
  at_ : Po
  deriving DecidableEq
def Fl0.row (f : Fl0) : List Dt := [.str f.name, .bool f.t.ptr, .str f.t.to, .int .i64 f.at_.line, .int .i64 f.at_.col]
structure Sr0 where
  name : Str
  fields : List Fl0
  at_ : Po
  deriving DecidableEq
def Sr0.row (s : Sr0) : List Dt := [.str s.name, .sl (s.fields.map Fl0.row), .int .i64 s.at_.line, .int .i64 s.at_.col]
structure Fn0 where
  name : Str
  params : List Fl0
  ret : Tp
  body : List St0
  at_ : Po
def Fn0.row (f : Fn0) : List Dt := [.str f.name, .sl (f.params.map Fl0.row), .bool f.ret.ptr, .str f.ret.to, .sl (f.body.map St0.row), .int .i64 f.at_.line, .int .i64 f.at_.col]
/-- A program. -/
structure Pr0 where
  structs : List Sr0
  funcs : List Fn0
def Pr0.av (p : Pr0) : AV := .agg [.d (.sl (p.structs.map Sr0.row)), .d (.sl (p.funcs.map Fn0.row))]
end Go.Proofs.Ythfollapianblaa
namespace Go.Proofs.Ythfollapianblaa
open Go Go.Ab
variable {ext : Sem'}
structure T0 (ext : Sem') : Prop where
  clear : Clear ext
theorem T0.tx (h : T0 ext) : TX ext := ⟨h.clear⟩
def idxP {α : Type} (p : α → Bool) : List α → Option Nat
  | [] => none
  | x :: l => if p x then some 0 else (idxP p l).map (· + 1)
def idxN {α : Type} (p : α → Bool) (l : List α) : Int := match idxP p l with
  | some i => i
  | none => -1
def nmS (n : Str) (s : Sr0) : Bool := decide (s.name = n)
def nmF (n : Str) (s : Fn0) : Bool := decide (s.name = n)
def nmL (n : Str) (s : Fl0) : Bool := decide (s.name = n)
theorem struct1_e (hx : T0 ext) (s : Sr0) (n : Str) : G ext 37 [.agg [.d (.str s.name), .d (.sl (s.fields.map Fl0.row)), .d (.int .i64 s.at_.line), .d (.int .i64 s.at_.col)], .ptr 0 0] [.cells [.d (.str n)]] = some (.ret (.d (.bool (nmS n s))), [.cells [.d (.str n)]]) := by
  rw [G_body hx.clear rfl Try.func37 rfl Try.results37 hv_37 rfl]
  unfold nmS
  simp (maxSteps := 4000000) (disch := first | (intros; contradiction) | omega) only [go_sem]
theorem ixS_e (hx : T0 ext) (l : List Sr0) (n : Str) (hl : l.length ≤ 1000000) :
    G ext 36 [.d (.sl (l.map Sr0.row)), .fn 37 [] [.ptr 0 0]] [.cells [.d (.str n)]] = some (.ret (.d (.int .i64 (idxN (nmS n) l))), [.cells [.d (.str n)]]) := by
  have hll : (l.map Sr0.row).length = l.length := List.length_map _
  rw [G_body hx.clear rfl Try.func36 rfl Try.results36 hv_36 rfl]
  simp (maxSteps := 4000000) (disch := first | (intros; contradiction) | omega) only [go_sem]
  generalize hL : loopA _ _ _ = L
  apply range_upd hL (by simp (maxSteps := 4000000) (disch := first | (intros; contradiction) | omega) only [go_sem] <;> rfl) l Sr0.row (α := Unit) (fun rest k _ => idxP (nmS n) l = (idxP (nmS n) rest).map (k + ·)) (fun k _ => [(5, .any), (8, .d (.int .i64 k))]) (fun _ _ => []) () (by simp (maxSteps := 4000000) (disch := first | (intros; contradiction) | omega) only [go_sem] <;> rfl) (by simp) ?_ ?_
  · intro x rest k _ hi hlt hr hxx hk _ next ih
    clear hL
    have hc := struct1_e hx x n
    simp only [Sr0.row] at hr
    simp only [idxP] at hi
    have hwk : IntKind.wrap .i64 ((k : Int) + 1) = ((k + 1 : Nat) : Int) := by rw [wrap64 (by omega) (by omega)]; omega
    cases hpx : nmS n x with
    | true =>
      rw [hpx] at hc hi
      have h1 : idxN (nmS n) l = k := by unfold idxN; rw [hi]; simp
      rw [h1]
      simp (maxSteps := 4000000) (disch := first | (intros; contradiction) | omega) only [go_sem, hlt, hr, hc]
    | false =>
      rw [hpx] at hc hi
      simp (maxSteps := 4000000) (disch := first | (intros; contradiction) | omega) only [go_sem, hlt, hr, hc, hwk]
      exact ih () _ (by rw [hi]; simp only [Bool.false_eq_true, if_false, Option.map_map]; congr 1; funext n; simp only [Function.comp]; omega) (by simp (maxSteps := 4000000) (disch := first | (intros; contradiction) | omega) only [go_sem] <;> rfl)
  · intro k _ hi hlt hk next
    clear hL
    have h1 : idxN (nmS n) l = -1 := by unfold idxN; rw [hi]; rfl
    rw [h1]
    simp (maxSteps := 4000000) (disch := first | (intros; contradiction) | omega) only [go_sem, hlt]
theorem struct_e (hx : T0 ext) (p : Pr0) (n : Str) (hl : p.structs.length ≤ 1000000) : G ext 15 [p.av, .d (.str n)] [] = some (.ret (.d (.int .i64 (idxN (nmS n) p.structs))), []) := by
  have h := ixS_e hx p.structs n hl
  rw [G_body hx.clear rfl Try.func15 rfl Try.results15 hv_15 rfl]
  simp only [Pr0.av]
  simp (maxSteps := 4000000) (disch := first | (intros; contradiction) | omega) only [go_sem, h]
end Go.Proofs.Ythfollapianblaa
namespace Go.Proofs.Ythfollapianblaa
open Go Go.Ab
variable {ext : Sem'}
theorem func1_e (hx : T0 ext) (s : Fn0) (n : Str) : G ext 39 [.agg [.d (.str s.name), .d (.sl (s.params.map Fl0.row)), .d (.bool s.ret.ptr), .d (.str s.ret.to), .d (.sl (s.body.map St0.row)), .d (.int .i64 s.at_.line), .d (.int .i64 s.at_.col)], .ptr 0 0] [.cells [.d (.str n)]] = some (.ret (.d (.bool (nmF n s))), [.cells [.d (.str n)]]) := by
  rw [G_body hx.clear rfl Try.func39 rfl Try.results39 hv_39 rfl]
  unfold nmF
  simp (maxSteps := 4000000) (disch := first | (intros; contradiction) | omega) only [go_sem]
theorem ixF_e (hx : T0 ext) (l : List Fn0) (n : Str) (hl : l.length ≤ 1000000) :
    G ext 38 [.d (.sl (l.map Fn0.row)), .fn 39 [] [.ptr 0 0]] [.cells [.d (.str n)]] = some (.ret (.d (.int .i64 (idxN (nmF n) l))), [.cells [.d (.str n)]]) := by
  have hll : (l.map Fn0.row).length = l.length := List.length_map _
  rw [G_body hx.clear rfl Try.func38 rfl Try.results38 hv_38 rfl]
  simp (maxSteps := 4000000) (disch := first | (intros; contradiction) | omega) only [go_sem]
  generalize hL : loopA _ _ _ = L
  apply range_upd hL (by simp (maxSteps := 4000000) (disch := first | (intros; contradiction) | omega) only [go_sem] <;> rfl) l Fn0.row (α := Unit) (fun rest k _ => idxP (nmF n) l = (idxP (nmF n) rest).map (k + ·)) (fun k _ => [(5, .any), (8, .d (.int .i64 k))]) (fun _ _ => []) () (by simp (maxSteps := 4000000) (disch := first | (intros; contradiction) | omega) only [go_sem] <;> rfl) (by simp) ?_ ?_
  · intro x rest k _ hi hlt hr hxx hk _ next ih
    clear hL
    have hc := func1_e hx x n
    simp only [Fn0.row] at hr
    simp only [idxP] at hi
    have hwk : IntKind.wrap .i64 ((k : Int) + 1) = ((k + 1 : Nat) : Int) := by rw [wrap64 (by omega) (by omega)]; omega
    cases hpx : nmF n x with
    | true =>
      rw [hpx] at hc hi
      have h1 : idxN (nmF n) l = k := by unfold idxN; rw [hi]; simp
      rw [h1]
      simp (maxSteps := 4000000) (disch := first | (intros; contradiction) | omega) only [go_sem, hlt, hr, hc]
    | false =>
      rw [hpx] at hc hi
      simp (maxSteps := 4000000) (disch := first | (intros; contradiction) | omega) only [go_sem, hlt, hr, hc, hwk]
      exact ih () _ (by rw [hi]; simp only [Bool.false_eq_true, if_false, Option.map_map]; congr 1; funext n; simp only [Function.comp]; omega) (by simp (maxSteps := 4000000) (disch := first | (intros; contradiction) | omega) only [go_sem] <;> rfl)
  · intro k _ hi hlt hk next
    clear hL
    have h1 : idxN (nmF n) l = -1 := by unfold idxN; rw [hi]; rfl
    rw [h1]
    simp (maxSteps := 4000000) (disch := first | (intros; contradiction) | omega) only [go_sem, hlt]
theorem func_e (hx : T0 ext) (p : Pr0) (n : Str) (hl : p.funcs.length ≤ 1000000) : G ext 17 [p.av, .d (.str n)] [] = some (.ret (.d (.int .i64 (idxN (nmF n) p.funcs))), []) := by
  have h := ixF_e hx p.funcs n hl
  rw [G_body hx.clear rfl Try.func17 rfl Try.results17 hv_17 rfl]
  simp only [Pr0.av]
  simp (maxSteps := 4000000) (disch := first | (intros; contradiction) | omega) only [go_sem, h]
theorem field1_e (hx : T0 ext) (s : Fl0) (n : Str) : G ext 32 [.agg [.d (.str s.name), .d (.bool s.t.ptr), .d (.str s.t.to), .d (.int .i64 s.at_.line), .d (.int .i64 s.at_.col)], .ptr 0 0] [.cells [.d (.str n)]] = some (.ret (.d (.bool (nmL n s))), [.cells [.d (.str n)]]) := by
  rw [G_body hx.clear rfl Try.func32 rfl Try.results32 hv_32 rfl]
  unfold nmL
  simp (maxSteps := 4000000) (disch := first | (intros; contradiction) | omega) only [go_sem]
theorem ixL_e (hx : T0 ext) (l : List Fl0) (n : Str) (hl : l.length ≤ 1000000) :
    G ext 31 [.d (.sl (l.map Fl0.row)), .fn 32 [] [.ptr 0 0]] [.cells [.d (.str n)]] = some (.ret (.d (.int .i64 (idxN (nmL n) l))), [.cells [.d (.str n)]]) := by
  have hll : (l.map Fl0.row).length = l.length := List.length_map _
  rw [G_body hx.clear rfl Try.func31 rfl Try.results31 hv_31 rfl]
  simp (maxSteps := 4000000) (disch := first | (intros; contradiction) | omega) only [go_sem]
  generalize hL : loopA _ _ _ = L
  apply range_upd hL (by simp (maxSteps := 4000000) (disch := first | (intros; contradiction) | omega) only [go_sem] <;> rfl) l Fl0.row (α := Unit) (fun rest k _ => idxP (nmL n) l = (idxP (nmL n) rest).map (k + ·)) (fun k _ => [(5, .any), (8, .d (.int .i64 k))]) (fun _ _ => []) () (by simp (maxSteps := 4000000) (disch := first | (intros; contradiction) | omega) only [go_sem] <;> rfl) (by simp) ?_ ?_
  · intro x rest k _ hi hlt hr hxx hk _ next ih
    clear hL
    have hc := field1_e hx x n
    simp only [Fl0.row] at hr
    simp only [idxP] at hi
    have hwk : IntKind.wrap .i64 ((k : Int) + 1) = ((k + 1 : Nat) : Int) := by rw [wrap64 (by omega) (by omega)]; omega
    cases hpx : nmL n x with
    | true =>
      rw [hpx] at hc hi
      have h1 : idxN (nmL n) l = k := by unfold idxN; rw [hi]; simp
      rw [h1]
      simp (maxSteps := 4000000) (disch := first | (intros; contradiction) | omega) only [go_sem, hlt, hr, hc]
    | false =>
      rw [hpx] at hc hi
      simp (maxSteps := 4000000) (disch := first | (intros; contradiction) | omega) only [go_sem, hlt, hr, hc, hwk]
      exact ih () _ (by rw [hi]; simp only [Bool.false_eq_true, if_false, Option.map_map]; congr 1; funext n; simp only [Function.comp]; omega) (by simp (maxSteps := 4000000) (disch := first | (intros; contradiction) | omega) only [go_sem] <;> rfl)
  · intro k _ hi hlt hk next
    clear hL
    have h1 : idxN (nmL n) l = -1 := by unfold idxN; rw [hi]; rfl
    rw [h1]
    simp (maxSteps := 4000000) (disch := first | (intros; contradiction) | omega) only [go_sem, hlt]
theorem idxN_some {α : Type} {p : α → Bool} : ∀ {l : List α}, idxN p l = -1 ∨ ∃ (i : Nat) (x : α), idxN p l = (i : Int) ∧ l[i]? = some x ∧ p x = true
  | [] => .inl rfl
  | x :: l => by
    unfold idxN idxP
    by_cases h : p x = true
    · rw [if_pos h]; exact .inr ⟨0, x, rfl, rfl, h⟩
    · rw [if_neg h]
      rcases idxN_some (p := p) (l := l) with e | ⟨i, y, e, h1, h2⟩
      · left
        unfold idxN at e
        cases hi : idxP p l with
        | none => rfl
        | some k => rw [hi] at e; simp only at e; omega
      · right
        unfold idxN at e
        cases hi : idxP p l with
        | none => rw [hi] at e; simp only at e; omega
        | some k =>
          rw [hi] at e
          simp only at e
          have : k = i := by omega
          subst this
          exact ⟨k + 1, y, rfl, by simpa using h1, h2⟩
/-- A struct's field, by names. -/
def fieldP (p : Pr0) (s n : Str) : Option (Int × Tp) :=
  match idxP (nmS s) p.structs with
  | none => none
  | some k => match p.structs[k]? with
    | none => none
    | some q => match idxP (nmL n) q.fields with
      | none => none
      | some i => (q.fields[i]?).map fun f => ((i : Int), f.t)
def fldA : Option (Int × Tp) → AV
  | some (i, t) => .tuple [.d (.int .i64 i), .agg [.d (.bool t.ptr), .d (.str t.to)], .d (.bool true)]
  | none => .tuple [.d (.int .i64 0), .agg [.d (.bool false), .d (.str [])], .d (.bool false)]
theorem field_e (hx : T0 ext) (p : Pr0) (s n : Str) (hl : p.structs.length ≤ 1000000) (hf : ∀ q, q ∈ p.structs → q.fields.length ≤ 1000000) : G ext 11 [p.av, .d (.str s), .d (.str n)] [] = some (.ret (fldA (fieldP p s n)), []) := by
  have h := struct_e hx p s hl
  unfold fieldP
  unfold idxN at h
  cases hi : idxP (nmS s) p.structs with
  | none =>
    rw [hi] at h
    simp only [Pr0.av, fldA] at h ⊢
    rw [G_body hx.clear rfl Try.func11 rfl Try.results11 hv_11 rfl]
    simp (maxSteps := 4000000) (disch := first | (intros; contradiction) | omega) only [go_sem, h]
    done
  | some k =>
    rw [hi] at h
    have hk : ∃ q, p.structs[k]? = some q := by
      rcases idxN_some (p := nmS s) (l := p.structs) with e | ⟨i, x, e, h1, _⟩
      · unfold idxN at e; rw [hi] at e; simp only at e; omega
      · unfold idxN at e; rw [hi] at e; simp only at e
        have : k = i := by omega
        subst this
        exact ⟨x, h1⟩
    obtain ⟨q, hq⟩ := hk
    have hmem := List.mem_of_getElem? hq
    have h2 := ixL_e hx q.fields n (hf q hmem)
    have hkl := (List.getElem?_eq_some_iff.1 hq).1
    have hrow : (p.structs.map Sr0.row)[k]? = some (Sr0.row q) := by rw [List.getElem?_map, hq]; rfl
    have hsl : (p.structs.map Sr0.row).length = p.structs.length := List.length_map _
    have k0 : (0 : Int) ≤ (k : Int) := by omega
    have k1 : (k : Int) < ((p.structs.map Sr0.row).length : Int) := by omega
    have k2 : ¬ (k : Int) < 0 := by omega
    simp only [Sr0.row] at hrow
    simp only [hq]
    unfold idxN at h2
    cases hj : idxP (nmL n) q.fields with
    | none =>
      rw [hj] at h2
      simp only [Pr0.av, fldA] at h ⊢
      rw [G_body hx.clear rfl Try.func11 rfl Try.results11 hv_11 rfl]
      simp (maxSteps := 4000000) (disch := first | (intros; contradiction) | omega) only [go_sem, h, h2, hrow, k0, k1, k2]
      done
    | some i =>
      rw [hj] at h2
      have hi2 : ∃ f, q.fields[i]? = some f := by
        rcases idxN_some (p := nmL n) (l := q.fields) with e | ⟨m, x, e, h1, _⟩
        · unfold idxN at e; rw [hj] at e; simp only at e; omega
        · unfold idxN at e; rw [hj] at e; simp only at e
          have : i = m := by omega
          subst this
          exact ⟨x, h1⟩
      obtain ⟨f, hff⟩ := hi2
      have hrow2 : (q.fields.map Fl0.row)[i]? = some (Fl0.row f) := by rw [List.getElem?_map, hff]; rfl
      have hil := (List.getElem?_eq_some_iff.1 hff).1
      have hfl : (q.fields.map Fl0.row).length = q.fields.length := List.length_map _
      have i0 : (0 : Int) ≤ (i : Int) := by omega
      have i1 : (i : Int) < ((q.fields.map Fl0.row).length : Int) := by omega
      have i2 : ¬ (i : Int) < 0 := by omega
      simp only [Fl0.row] at hrow2
      simp only [hff, Option.map_some]
      simp only [Pr0.av, fldA] at h ⊢
      rw [G_body hx.clear rfl Try.func11 rfl Try.results11 hv_11 rfl]
      simp (maxSteps := 4000000) (disch := first | (intros; contradiction) | omega) only [go_sem, h, h2, hrow, hrow2, k0, k1, k2, i0, i1, i2]
      done
/-- Does a type fit? -/
def fitsP (a b : Tp) : Bool := decide (a = b) || (a.ptr && (b.ptr && decide (b.to = [])))
end Go.Proofs.Ythfollapianblaa
namespace Go.Proofs.Ythfollapianblaa
open Go Go.Ab
variable {ext : Sem'}
def Tp.av (t : Tp) : AV := .agg [.d (.bool t.ptr), .d (.str t.to)]
theorem fits_e (hx : T0 ext) (a b : Tp) : G ext 19 [a.av, b.av] [] = some (.ret (.d (.bool (fitsP a b))), []) := by
  obtain ⟨ap, at'⟩ := a
  obtain ⟨bp, bt⟩ := b
  unfold fitsP Tp.av
  rw [G_body hx.clear rfl Try.func19 rfl Try.results19 hv_19 rfl]
  cases ap <;> cases bp
  · by_cases h2 : at' = bt
    · simp (maxSteps := 4000000) (disch := first | (intros; contradiction) | omega) only [go_sem, h2]
      try simp
    · simp (maxSteps := 4000000) (disch := first | (intros; contradiction) | omega) only [go_sem, h2]
      try simp [h2]
  · simp (maxSteps := 4000000) (disch := first | (intros; contradiction) | omega) only [go_sem]
    simp
  · simp (maxSteps := 4000000) (disch := first | (intros; contradiction) | omega) only [go_sem]
    simp
  · by_cases h2 : at' = bt
    · simp (maxSteps := 4000000) (disch := first | (intros; contradiction) | omega) only [go_sem, h2]
      try simp
    · by_cases h3 : bt = []
      · subst h3
        simp (maxSteps := 4000000) (disch := first | (intros; contradiction) | omega) only [go_sem, h2]
        try simp [h2]
      · simp (maxSteps := 4000000) (disch := first | (intros; contradiction) | omega) only [go_sem, h2, h3]
        try simp [h2, h3]
mutual
/-- Does a statement end its list? -/
def overP : St0 → Bool
  | .mk k _ _ _ b l _ => (decide (k = 6) || (decide (k = 7) || decide (k = 8))) || (decide (k = 4) && (endsP b && endsP l))
def endsP : List St0 → Bool
  | [] => false
  | s :: l => overP s || endsP l
end
theorem ends_any : ∀ l : List St0, endsP l = l.any overP
  | [] => rfl
  | s :: l => by simp only [endsP, List.any_cons, ends_any l]
theorem over_mk (s : St0) : overP s = ((decide (s.kind = 6) || (decide (s.kind = 7) || decide (s.kind = 8))) || (decide (s.kind = 4) && (endsP s.body && endsP s.els))) := by
  cases s; rfl
def St0.agg (s : St0) : AV := .agg [.d (.int .i64 s.kind), .d (.bool s.t.ptr), .d (.str s.t.to), .d (.str s.name), .d (.sl (s.e.map Ex0.row)), .d (.sl (s.body.map St0.row)), .d (.sl (s.els.map St0.row)), .d (.int .i64 s.pos.line), .d (.int .i64 s.pos.col)]
theorem idxP_any {α : Type} {p : α → Bool} : ∀ {l : List α}, (idxP p l).isSome = l.any p
  | [] => rfl
  | x :: l => by
    unfold idxP
    split
    · rename_i h; simp [h]
    · rename_i h; simp [h, idxP_any (l := l)]
theorem idxN_any {α : Type} {p : α → Bool} {l : List α} : decide (0 ≤ idxN p l) = l.any p := by
  rw [← idxP_any]
  unfold idxN
  cases idxP p l with
  | none => rfl
  | some i => simp
theorem anyS_e (hx : T0 ext) (l : List St0) (hl : l.length ≤ 1000000) (hp : ∀ x, x ∈ l → G ext 34 [x.agg] [] = some (.ret (.d (.bool (overP x))), [])) : G ext 13 [.d (.sl (l.map St0.row))] [] = some (.ret (.d (.bool (endsP l))), []) := by
  have hll : (l.map St0.row).length = l.length := List.length_map _
  have hi : G ext 56 [.d (.sl (l.map St0.row)), .fn 34 [] []] [] = some (.ret (.d (.int .i64 (idxN overP l))), []) := by
    rw [G_body hx.clear rfl Try.func56 rfl Try.results56 hv_56 rfl]
    simp (maxSteps := 4000000) (disch := first | (intros; contradiction) | omega) only [go_sem]
    generalize hL : loopA _ _ _ = L
    apply range_upd hL (by simp (maxSteps := 4000000) (disch := first | (intros; contradiction) | omega) only [go_sem] <;> rfl) l St0.row (α := Unit) (fun rest k _ => idxP overP l = (idxP overP rest).map (k + ·)) (fun k _ => [(5, .any), (8, .d (.int .i64 k))]) (fun _ _ => []) () (by simp (maxSteps := 4000000) (disch := first | (intros; contradiction) | omega) only [go_sem] <;> rfl) (by simp) ?_ ?_
    · intro x rest k _ hi hlt hr hxx hk _ next ih
      clear hL
      have hc := hp x (List.mem_of_getElem? hxx)
      rw [St0.row_eq] at hr
      unfold St0.agg at hc
      simp only [idxP] at hi
      have hwk : IntKind.wrap .i64 ((k : Int) + 1) = ((k + 1 : Nat) : Int) := by rw [wrap64 (by omega) (by omega)]; omega
      cases hpx : overP x with
      | true =>
        rw [hpx] at hc hi
        have h1 : idxN overP l = k := by unfold idxN; rw [hi]; simp
        rw [h1]
        simp (maxSteps := 4000000) (disch := first | (intros; contradiction) | omega) only [go_sem, hlt, hr, hc]
      | false =>
        rw [hpx] at hc hi
        simp (maxSteps := 4000000) (disch := first | (intros; contradiction) | omega) only [go_sem, hlt, hr, hc, hwk]
        exact ih () _ (by rw [hi]; simp only [Bool.false_eq_true, if_false, Option.map_map]; congr 1; funext n; simp only [Function.comp]; omega) (by simp (maxSteps := 4000000) (disch := first | (intros; contradiction) | omega) only [go_sem] <;> rfl)
    · intro k _ hi hlt hk next
      clear hL
      have h1 : idxN overP l = -1 := by unfold idxN; rw [hi]; rfl
      rw [h1]
      simp (maxSteps := 4000000) (disch := first | (intros; contradiction) | omega) only [go_sem, hlt]
  have hc : G ext 33 [.d (.sl (l.map St0.row)), .fn 34 [] []] [] = some (.ret (.d (.bool (endsP l))), []) := by
    rw [ends_any, ← idxN_any]
    rw [G_body hx.clear rfl Try.func33 rfl Try.results33 hv_33 rfl]
    simp (maxSteps := 4000000) (disch := first | (intros; contradiction) | omega) only [go_sem, hi]
  rw [G_body hx.clear rfl Try.func13 rfl Try.results13 hv_13 rfl]
  simp (maxSteps := 4000000) (disch := first | (intros; contradiction) | omega) only [go_sem, hc]
theorem over_e (hx : T0 ext) (s : St0) (h1 : G ext 13 [.d (.sl (s.body.map St0.row))] [] = some (.ret (.d (.bool (endsP s.body))), [])) (h2 : G ext 13 [.d (.sl (s.els.map St0.row))] [] = some (.ret (.d (.bool (endsP s.els))), [])) : G ext 34 [s.agg] [] = some (.ret (.d (.bool (overP s))), []) := by
  rw [over_mk]
  unfold St0.agg
  rw [G_body hx.clear rfl Try.func34 rfl Try.results34 hv_34 rfl]
  by_cases k6 : s.kind = 6
  · simp (maxSteps := 4000000) (disch := first | (intros; contradiction) | omega) only [go_sem, k6]
    done
  by_cases k7 : s.kind = 7
  · simp (maxSteps := 4000000) (disch := first | (intros; contradiction) | omega) only [go_sem, k7]
    done
  by_cases k8 : s.kind = 8
  · simp (maxSteps := 4000000) (disch := first | (intros; contradiction) | omega) only [go_sem, k8]
    done
  by_cases k4 : s.kind = 4
  · have k4' := eq_true k4
    cases hb : endsP s.body with
    | false =>
      rw [hb] at h1
      simp (maxSteps := 4000000) (disch := first | (intros; contradiction) | omega) only [go_sem, k4', k6, k7, k8, h1, decide_true, decide_false, Bool.false_or, Bool.true_and, Bool.false_and]
      done
    | true =>
      rw [hb] at h1
      simp (maxSteps := 4000000) (disch := first | (intros; contradiction) | omega) only [go_sem, k4', k6, k7, k8, h1, h2, decide_true, decide_false, Bool.false_or, Bool.true_and]
      done
  · simp (maxSteps := 4000000) (disch := first | (intros; contradiction) | omega) only [go_sem, k4, k6, k7, k8, decide_false, Bool.false_or, Bool.false_and]
    done
mutual
/-- How many statements. -/
def cntS : St0 → Nat
  | .mk _ _ _ _ b l _ => 1 + cntL b + cntL l
def cntL : List St0 → Nat
  | [] => 0
  | s :: l => cntS s + cntL l
end
theorem cntS_eq (s : St0) : cntS s = 1 + cntL s.body + cntL s.els := by cases s; rfl
theorem cntL_mem : ∀ {l : List St0} {s : St0}, s ∈ l → cntS s ≤ cntL l
  | [], _, h => by cases h
  | x :: l, s, h => by
    simp only [cntL]
    rcases List.mem_cons.1 h with rfl | h
    · omega
    · have := cntL_mem h; omega
theorem cntL_len : ∀ l : List St0, l.length ≤ cntL l
  | [] => Nat.le_refl _
  | x :: l => by
    have := cntL_len l
    have := cntS_eq x
    simp only [cntL, List.length_cons]; omega
theorem ends_e (hx : T0 ext) : ∀ (m : Nat) (l : List St0), cntL l ≤ m → m ≤ 1000000 → G ext 13 [.d (.sl (l.map St0.row))] [] = some (.ret (.d (.bool (endsP l))), []) := by
  intro m
  induction m using Nat.strongRecOn with
  | ind m ih =>
    intro l hl hm
    refine anyS_e hx l (by have := cntL_len l; omega) fun s hs => ?_
    have h1 := cntL_mem hs
    have h2 := cntS_eq s
    have hb : cntL s.body < m := by omega
    have he : cntL s.els < m := by omega
    exact over_e hx s (ih _ hb s.body (Nat.le_refl _) (by omega)) (ih _ he s.els (Nat.le_refl _) (by omega))
end Go.Proofs.Ythfollapianblaa
namespace Go.Proofs.Ythfollapianblaa
open Go Go.Ab
variable {ext : Sem'}
theorem rstruct_e (hx : T0 ext) (p : Pr0) (n : Str) (hl : p.structs.length ≤ 1000000) : G ext 16 [p.av, .d (.str n)] [] = some (.ret (.d (.int .i64 (idxN (nmS n) p.structs))), []) := by
  have hll : (p.structs.map Sr0.row).length = p.structs.length := List.length_map _
  rw [G_body hx.clear rfl Try.func16 rfl Try.results16 hv_16 rfl]
  simp only [Pr0.av]
  simp (maxSteps := 4000000) (disch := first | (intros; contradiction) | omega) only [go_sem]
  generalize hL : loopA _ _ _ = L
  apply range_upd hL (by simp (maxSteps := 4000000) (disch := first | (intros; contradiction) | omega) only [go_sem] <;> rfl) p.structs Sr0.row (α := Unit) (fun rest k _ => idxP (nmS n) p.structs = (idxP (nmS n) rest).map (k + ·)) (fun k _ => [(5, .d (.int .i64 k))]) (fun _ _ => []) () (by simp (maxSteps := 4000000) (disch := first | (intros; contradiction) | omega) only [go_sem] <;> rfl) (by simp) ?_ ?_
  · intro x rest k _ hi hlt hr hxx hk _ next ih
    clear hL
    simp only [Sr0.row] at hr
    simp only [idxP] at hi
    have hk0 : (0 : Int) ≤ (k : Int) := by omega
    have hwk : IntKind.wrap .i64 ((k : Int) + 1) = ((k + 1 : Nat) : Int) := by rw [wrap64 (by omega) (by omega)]; omega
    by_cases hn : x.name = n
    · have hpx : nmS n x = true := decide_eq_true hn
      rw [hpx] at hi
      have h1 : idxN (nmS n) p.structs = k := by unfold idxN; rw [hi]; simp
      rw [h1]
      simp (maxSteps := 4000000) (disch := first | (intros; contradiction) | omega) only [go_sem, hlt, hr, hk0, hn]
      done
    · have hpx : nmS n x = false := decide_eq_false hn
      rw [hpx] at hi
      simp (maxSteps := 4000000) (disch := first | (intros; contradiction) | omega) only [go_sem, hlt, hr, hk0, hn, hwk]
      exact ih () _ (by rw [hi]; simp only [Bool.false_eq_true, if_false, Option.map_map]; congr 1; funext n; simp only [Function.comp]; omega) (by simp (maxSteps := 4000000) (disch := first | (intros; contradiction) | omega) only [go_sem] <;> rfl)
  · intro k _ hi hlt hk next
    clear hL
    have h1 : idxN (nmS n) p.structs = -1 := by unfold idxN; rw [hi]; rfl
    rw [h1]
    simp (maxSteps := 4000000) (disch := first | (intros; contradiction) | omega) only [go_sem, hlt]
    done
theorem rfunc_e (hx : T0 ext) (p : Pr0) (n : Str) (hl : p.funcs.length ≤ 1000000) : G ext 18 [p.av, .d (.str n)] [] = some (.ret (.d (.int .i64 (idxN (nmF n) p.funcs))), []) := by
  have hll : (p.funcs.map Fn0.row).length = p.funcs.length := List.length_map _
  rw [G_body hx.clear rfl Try.func18 rfl Try.results18 hv_18 rfl]
  simp only [Pr0.av]
  simp (maxSteps := 4000000) (disch := first | (intros; contradiction) | omega) only [go_sem]
  generalize hL : loopA _ _ _ = L
  apply range_upd hL (by simp (maxSteps := 4000000) (disch := first | (intros; contradiction) | omega) only [go_sem] <;> rfl) p.funcs Fn0.row (α := Unit) (fun rest k _ => idxP (nmF n) p.funcs = (idxP (nmF n) rest).map (k + ·)) (fun k _ => [(5, .d (.int .i64 k))]) (fun _ _ => []) () (by simp (maxSteps := 4000000) (disch := first | (intros; contradiction) | omega) only [go_sem] <;> rfl) (by simp) ?_ ?_
  · intro x rest k _ hi hlt hr hxx hk _ next ih
    clear hL
    simp only [Fn0.row] at hr
    simp only [idxP] at hi
    have hk0 : (0 : Int) ≤ (k : Int) := by omega
    have hwk : IntKind.wrap .i64 ((k : Int) + 1) = ((k + 1 : Nat) : Int) := by rw [wrap64 (by omega) (by omega)]; omega
    by_cases hn : x.name = n
    · have hpx : nmF n x = true := decide_eq_true hn
      rw [hpx] at hi
      have h1 : idxN (nmF n) p.funcs = k := by unfold idxN; rw [hi]; simp
      rw [h1]
      simp (maxSteps := 4000000) (disch := first | (intros; contradiction) | omega) only [go_sem, hlt, hr, hk0, hn]
      done
    · have hpx : nmF n x = false := decide_eq_false hn
      rw [hpx] at hi
      simp (maxSteps := 4000000) (disch := first | (intros; contradiction) | omega) only [go_sem, hlt, hr, hk0, hn, hwk]
      exact ih () _ (by rw [hi]; simp only [Bool.false_eq_true, if_false, Option.map_map]; congr 1; funext n; simp only [Function.comp]; omega) (by simp (maxSteps := 4000000) (disch := first | (intros; contradiction) | omega) only [go_sem] <;> rfl)
  · intro k _ hi hlt hk next
    clear hL
    have h1 : idxN (nmF n) p.funcs = -1 := by unfold idxN; rw [hi]; rfl
    rw [h1]
    simp (maxSteps := 4000000) (disch := first | (intros; contradiction) | omega) only [go_sem, hlt]
    done
theorem rfits_e (hx : T0 ext) (a b : Tp) : G ext 20 [a.av, b.av] [] = some (.ret (.d (.bool (fitsP a b))), []) := by
  obtain ⟨ap, at'⟩ := a
  obtain ⟨bp, bt⟩ := b
  unfold fitsP Tp.av
  rw [G_body hx.clear rfl Try.func20 rfl Try.results20 hv_20 rfl]
  cases ap <;> cases bp
  · by_cases h2 : at' = bt
    · simp (maxSteps := 4000000) (disch := first | (intros; contradiction) | omega) only [go_sem, h2]
      try simp
    · simp (maxSteps := 4000000) (disch := first | (intros; contradiction) | omega) only [go_sem, h2]
      try simp [h2]
  · simp (maxSteps := 4000000) (disch := first | (intros; contradiction) | omega) only [go_sem]
    try simp
  · simp (maxSteps := 4000000) (disch := first | (intros; contradiction) | omega) only [go_sem]
    try simp
  · by_cases h2 : at' = bt
    · simp (maxSteps := 4000000) (disch := first | (intros; contradiction) | omega) only [go_sem, h2]
      try simp
    · by_cases h3 : bt = []
      · subst h3
        simp (maxSteps := 4000000) (disch := first | (intros; contradiction) | omega) only [go_sem, h2]
        try simp [h2]
      · simp (maxSteps := 4000000) (disch := first | (intros; contradiction) | omega) only [go_sem, h2, h3]
        try simp [h2, h3]
end Go.Proofs.Ythfollapianblaa
namespace Go.Proofs.Ythfollapianblaa
open Go Go.Ab
variable {ext : Sem'}
theorem rends1_e (hx : T0 ext) (s : St0) (h1 : G ext 14 [.d (.sl (s.body.map St0.row))] [] = some (.ret (.d (.bool (endsP s.body))), [])) (h2 : G ext 14 [.d (.sl (s.els.map St0.row))] [] = some (.ret (.d (.bool (endsP s.els))), [])) : G ext 35 [s.agg] [] = some (.ret (.d (.bool (overP s))), []) := by
  rw [over_mk]
  unfold St0.agg
  rw [G_body hx.clear rfl Try.func35 rfl Try.results35 hv_35 rfl]
  have hk : (decide (s.kind = 6) || (decide (s.kind = 7) || decide (s.kind = 8))) = (decide (6 ≤ s.kind) && decide (s.kind ≤ 8)) := by
    by_cases a : s.kind = 6 <;> by_cases b : s.kind = 7 <;> by_cases c : s.kind = 8 <;> simp [a, b, c] <;> omega
  rw [hk]
  by_cases g1 : 6 ≤ s.kind
  · by_cases g2 : s.kind ≤ 8
    · simp (maxSteps := 4000000) (disch := first | (intros; contradiction) | omega) only [go_sem, g1, g2, decide_true, Bool.true_and, Bool.true_or]
      done
    · have k4 : ¬ s.kind = 4 := by omega
      simp (maxSteps := 4000000) (disch := first | (intros; contradiction) | omega) only [go_sem, g1, g2, k4, decide_true, decide_false, Bool.true_and, Bool.false_or, Bool.false_and]
      done
  · by_cases k4 : s.kind = 4
    · have k4' := eq_true k4
      cases hb : endsP s.body with
      | false =>
        rw [hb] at h1
        simp (maxSteps := 4000000) (disch := first | (intros; contradiction) | omega) only [go_sem, g1, k4', h1, decide_true, decide_false, Bool.true_and, Bool.false_or, Bool.false_and]
        done
      | true =>
        rw [hb] at h1
        simp (maxSteps := 4000000) (disch := first | (intros; contradiction) | omega) only [go_sem, g1, k4', h1, h2, decide_true, decide_false, Bool.true_and, Bool.false_or, Bool.false_and]
        done
    · simp (maxSteps := 4000000) (disch := first | (intros; contradiction) | omega) only [go_sem, g1, k4, decide_true, decide_false, Bool.true_and, Bool.false_or, Bool.false_and]
      done
theorem ranyS_e (hx : T0 ext) (l : List St0) (hl : l.length ≤ 1000000) (hp : ∀ x, x ∈ l → G ext 35 [x.agg] [] = some (.ret (.d (.bool (overP x))), [])) : G ext 14 [.d (.sl (l.map St0.row))] [] = some (.ret (.d (.bool (endsP l))), []) := by
  have hll : (l.map St0.row).length = l.length := List.length_map _
  rw [ends_any]
  rw [G_body hx.clear rfl Try.func14 rfl Try.results14 hv_14 rfl]
  simp (maxSteps := 4000000) (disch := first | (intros; contradiction) | omega) only [go_sem]
  generalize hL : loopA _ _ _ = L
  apply range_upd hL (by simp (maxSteps := 4000000) (disch := first | (intros; contradiction) | omega) only [go_sem] <;> rfl) l St0.row (α := Unit) (fun rest k _ => l.any overP = rest.any overP) (fun k _ => [(3, .d (.int .i64 k))]) (fun _ _ => []) () (by simp (maxSteps := 4000000) (disch := first | (intros; contradiction) | omega) only [go_sem] <;> rfl) rfl ?_ ?_
  · intro x rest k _ hi hlt hr hxx hk _ next ih
    clear hL
    have hc := hp x (List.mem_of_getElem? hxx)
    rw [St0.row_eq] at hr
    unfold St0.agg at hc
    rw [List.any_cons] at hi
    have hk0 : (0 : Int) ≤ (k : Int) := by omega
    have hwk : IntKind.wrap .i64 ((k : Int) + 1) = ((k + 1 : Nat) : Int) := by rw [wrap64 (by omega) (by omega)]; omega
    cases hpx : overP x with
    | true =>
      rw [hpx] at hc hi
      rw [hi, Bool.true_or]
      simp (maxSteps := 4000000) (disch := first | (intros; contradiction) | omega) only [go_sem, hlt, hr, hk0, hc]
      done
    | false =>
      rw [hpx, Bool.false_or] at hi
      rw [hpx] at hc
      simp (maxSteps := 4000000) (disch := first | (intros; contradiction) | omega) only [go_sem, hlt, hr, hk0, hc, hwk]
      exact ih () _ hi (by simp (maxSteps := 4000000) (disch := first | (intros; contradiction) | omega) only [go_sem] <;> rfl)
  · intro k _ hi hlt hk next
    clear hL
    have hi : l.any overP = false := hi
    rw [hi]
    simp (maxSteps := 4000000) (disch := first | (intros; contradiction) | omega) only [go_sem, hlt]
    done
theorem rends_e (hx : T0 ext) : ∀ (m : Nat) (l : List St0), cntL l ≤ m → m ≤ 1000000 → G ext 14 [.d (.sl (l.map St0.row))] [] = some (.ret (.d (.bool (endsP l))), []) := by
  intro m
  induction m using Nat.strongRecOn with
  | ind m ih =>
    intro l hl hm
    refine ranyS_e hx l (by have := cntL_len l; omega) fun s hs => ?_
    have h1 := cntL_mem hs
    have h2 := cntS_eq s
    have hb : cntL s.body < m := by omega
    have he : cntL s.els < m := by omega
    exact rends1_e hx s (ih _ hb s.body (Nat.le_refl _) (by omega)) (ih _ he s.els (Nat.le_refl _) (by omega))
end Go.Proofs.Ythfollapianblaa
namespace Go.Proofs.Ythfollapianblaa
open Go Go.Ab
variable {ext : Sem'}
theorem idxP_lt {α : Type} {p : α → Bool} : ∀ {l : List α} {k : Nat}, idxP p l = some k → k < l.length
  | [], k, h => by cases h
  | x :: l, k, h => by
    unfold idxP at h
    split at h
    · cases h; simp
    · cases hi : idxP p l with
      | none => rw [hi] at h; cases h
      | some m =>
        rw [hi] at h
        cases h
        have := idxP_lt hi
        simp only [List.length_cons]; omega
theorem rfield_e (hx : T0 ext) (p : Pr0) (s n : Str) (hl : p.structs.length ≤ 1000000) (hfd : ∀ q, q ∈ p.structs → q.fields.length ≤ 1000000) : G ext 12 [p.av, .d (.str s), .d (.str n)] [] = some (.ret (fldA (fieldP p s n)), []) := by
  have h := rstruct_e hx p s hl
  unfold fieldP
  unfold idxN at h
  cases hi : idxP (nmS s) p.structs with
  | none =>
    rw [hi] at h
    simp only [Pr0.av, fldA] at h ⊢
    rw [G_body hx.clear rfl Try.func12 rfl Try.results12 hv_12 rfl]
    simp (maxSteps := 4000000) (disch := first | (intros; contradiction) | omega) only [go_sem, h]
    done
  | some k =>
    rw [hi] at h
    have hkl := idxP_lt hi
    obtain ⟨q, hq⟩ : ∃ q, p.structs[k]? = some q := ⟨_, List.getElem?_eq_getElem hkl⟩
    have hmem := List.mem_of_getElem? hq
    have hfl := hfd q hmem
    have hrow : (p.structs.map Sr0.row)[k]? = some (Sr0.row q) := by rw [List.getElem?_map, hq]; rfl
    have hsl : (p.structs.map Sr0.row).length = p.structs.length := List.length_map _
    have hql : (q.fields.map Fl0.row).length = q.fields.length := List.length_map _
    have k0 : (0 : Int) ≤ (k : Int) := by omega
    have k2 : ¬ (k : Int) < 0 := by omega
    simp only [Sr0.row] at hrow
    simp only [hq]
    simp only [Pr0.av] at h ⊢
    rw [G_body hx.clear rfl Try.func12 rfl Try.results12 hv_12 rfl]
    simp (maxSteps := 4000000) (disch := first | (intros; contradiction) | omega) only [go_sem, h, hrow, k0, k2]
    generalize hL : loopA _ _ _ = L
    apply range_upd hL (by simp (maxSteps := 4000000) (disch := first | (intros; contradiction) | omega) only [go_sem] <;> rfl) q.fields Fl0.row (α := Unit) (fun rest m _ => idxP (nmL n) q.fields = (idxP (nmL n) rest).map (m + ·)) (fun m _ => [(11, .d (.int .i64 m))]) (fun _ _ => []) () (by simp (maxSteps := 4000000) (disch := first | (intros; contradiction) | omega) only [go_sem] <;> rfl) (by simp) ?_ ?_
    · intro x rest m _ hi hlt hr hxx hm _ next ih
      clear hL
      simp only [Fl0.row] at hr
      simp only [idxP] at hi
      have hk0 : (0 : Int) ≤ (m : Int) := by omega
      have hwk : IntKind.wrap .i64 ((m : Int) + 1) = ((m + 1 : Nat) : Int) := by rw [wrap64 (by omega) (by omega)]; omega
      by_cases hn : x.name = n
      · have hpx : nmL n x = true := decide_eq_true hn
        rw [hpx] at hi
        have h1 : idxP (nmL n) q.fields = some m := by rw [hi]; simp
        rw [h1]
        simp only [hxx, Option.map_some, fldA]
        simp (maxSteps := 4000000) (disch := first | (intros; contradiction) | omega) only [go_sem, hlt, hr, hk0, hn]
        done
      · have hpx : nmL n x = false := decide_eq_false hn
        rw [hpx] at hi
        simp (maxSteps := 4000000) (disch := first | (intros; contradiction) | omega) only [go_sem, hlt, hr, hk0, hn, hwk]
        exact ih () _ (by rw [hi]; simp only [Bool.false_eq_true, if_false, Option.map_map]; congr 1; funext n; simp only [Function.comp]; omega) (by simp (maxSteps := 4000000) (disch := first | (intros; contradiction) | omega) only [go_sem] <;> rfl)
    · intro m _ hi hlt hm next
      clear hL
      have h1 : idxP (nmL n) q.fields = none := by rw [hi]; rfl
      rw [h1]
      simp only [fldA]
      simp (maxSteps := 4000000) (disch := first | (intros; contradiction) | omega) only [go_sem, hlt]
      done
end Go.Proofs.Ythfollapianblaa
