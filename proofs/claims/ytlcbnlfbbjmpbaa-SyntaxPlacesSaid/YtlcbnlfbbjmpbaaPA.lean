/- The first language's programs, as data. Conditions: none. -/
import Derived.Test.YtlcbnlfbbjmpbaaTA
import Derived.Test.YtlcbnlfbbjmpbaaHints
import Derived.Test.YtlcbnlfbbjmpbaaTy
import Derived.Test.YtlcbnlfbbjmpbaaLp
set_option linter.unusedSimpArgs false
set_option linter.unusedVariables false
namespace Go.Proofs.Ytlcbnlfbbjmpbaa
open Go Go.Ab
abbrev Str := List UInt8
/-- A place. -/
structure Po where
  line : Int
  col : Int
  deriving DecidableEq
def Po.row (p : Po) : List Dt := [.int .i64 p.line, .int .i64 p.col]
/-- A type. -/
structure Tp where
  ptr : Bool
  to : Str
  deriving DecidableEq
def Tp.row (t : Tp) : List Dt := [.bool t.ptr, .str t.to]
/-- An expression. -/
inductive Ex0 where
  | mk (kind n : Int) (name op : Str) (kids : List Ex0) (at_ : Po)
mutual
def Ex0.row : Ex0 → List Dt
  | .mk k n s o ks p => [.int .i64 k, .int .i64 n, .str s, .str o, .sl (Ex0.rows ks)] ++ p.row
def Ex0.rows : List Ex0 → List (List Dt)
  | [] => []
  | e :: l => e.row :: Ex0.rows l
end
theorem Ex0.rows_map : ∀ l : List Ex0, Ex0.rows l = l.map Ex0.row
  | [] => by simp [Ex0.rows]
  | e :: l => by simp [Ex0.rows, Ex0.rows_map l]
def Ex0.kind : Ex0 → Int | .mk k _ _ _ _ _ => k
def Ex0.n : Ex0 → Int | .mk _ n _ _ _ _ => n
def Ex0.name : Ex0 → Str | .mk _ _ s _ _ _ => s
def Ex0.op : Ex0 → Str | .mk _ _ _ o _ _ => o
def Ex0.kids : Ex0 → List Ex0 | .mk _ _ _ _ ks _ => ks
def Ex0.pos : Ex0 → Po | .mk _ _ _ _ _ p => p
theorem Ex0.row_eq (e : Ex0) : e.row = [.int .i64 e.kind, .int .i64 e.n, .str e.name, .str e.op, .sl (e.kids.map Ex0.row), .int .i64 e.pos.line, .int .i64 e.pos.col] := by
  cases e with
  | mk k n s o ks p => simp [Ex0.row, Ex0.rows_map, Ex0.kind, Ex0.n, Ex0.name, Ex0.op, Ex0.kids, Ex0.pos, Po.row]
/-- A statement. -/
inductive St0 where
  | mk (kind : Int) (t : Tp) (name : Str) (e : List Ex0) (body els : List St0) (at_ : Po)
mutual
def St0.row : St0 → List Dt
  | .mk k t s e b l p => [.int .i64 k] ++ t.row ++ [.str s, .sl (e.map Ex0.row), .sl (St0.rows b), .sl (St0.rows l)] ++ p.row
def St0.rows : List St0 → List (List Dt)
  | [] => []
  | e :: l => e.row :: St0.rows l
end
theorem St0.rows_map : ∀ l : List St0, St0.rows l = l.map St0.row
  | [] => by simp [St0.rows]
  | e :: l => by simp [St0.rows, St0.rows_map l]
def St0.kind : St0 → Int | .mk k _ _ _ _ _ _ => k
def St0.t : St0 → Tp | .mk _ t _ _ _ _ _ => t
def St0.name : St0 → Str | .mk _ _ s _ _ _ _ => s
def St0.e : St0 → List Ex0 | .mk _ _ _ e _ _ _ => e
def St0.body : St0 → List St0 | .mk _ _ _ _ b _ _ => b
def St0.els : St0 → List St0 | .mk _ _ _ _ _ l _ => l
def St0.pos : St0 → Po | .mk _ _ _ _ _ _ p => p
theorem St0.row_eq (s : St0) : s.row = [.int .i64 s.kind, .bool s.t.ptr, .str s.t.to, .str s.name, .sl (s.e.map Ex0.row), .sl (s.body.map St0.row), .sl (s.els.map St0.row), .int .i64 s.pos.line, .int .i64 s.pos.col] := by
  cases s with
  | mk k t n e b l p => simp [St0.row, St0.rows_map, St0.kind, St0.t, St0.name, St0.e, St0.body, St0.els, St0.pos, Po.row, Tp.row]
/-- A field, or a parameter. -/
structure Fl0 where
  name : Str
  t : Tp
  at_ : Po
  deriving DecidableEq
def Fl0.row (f : Fl0) : List Dt := [.str f.name, .bool f.t.ptr, .str f.t.to, .int .i64 f.at_.line, .int .i64 f.at_.col]
structure Sr0 where
  name : Str
  fields : List Fl0
  at_ : Po
  deriving DecidableEq
def Sr0.row (s : Sr0) : List Dt := [.str s.name, .sl (s.fields.map Fl0.row), .int .i64 s.at_.line, .int .i64 s.at_.col]
structure Fn0 where
  name : Str
  params : List Fl0
  ret : Tp
  body : List St0
  at_ : Po
def Fn0.row (f : Fn0) : List Dt := [.str f.name, .sl (f.params.map Fl0.row), .bool f.ret.ptr, .str f.ret.to, .sl (f.body.map St0.row), .int .i64 f.at_.line, .int .i64 f.at_.col]
/-- A program. -/
structure Pr0 where
  structs : List Sr0
  funcs : List Fn0
def Pr0.av (p : Pr0) : AV := .agg [.d (.sl (p.structs.map Sr0.row)), .d (.sl (p.funcs.map Fn0.row))]
variable {ext : Sem'}
structure T0 (ext : Sem') : Prop extends TX ext
theorem T0.tx (h : T0 ext) : TX ext := h.toTX
def Tp.av (t : Tp) : AV := .agg [.d (.bool t.ptr), .d (.str t.to)]
def St0.agg (s : St0) : AV := .agg [.d (.int .i64 s.kind), .d (.bool s.t.ptr), .d (.str s.t.to), .d (.str s.name), .d (.sl (s.e.map Ex0.row)), .d (.sl (s.body.map St0.row)), .d (.sl (s.els.map St0.row)), .d (.int .i64 s.pos.line), .d (.int .i64 s.pos.col)]
mutual
def cntS : St0 → Nat
  | .mk _ _ _ _ b l _ => 1 + cntL b + cntL l
def cntL : List St0 → Nat
  | [] => 0
  | s :: l => cntS s + cntL l
end
theorem cntS_eq (s : St0) : cntS s = 1 + cntL s.body + cntL s.els := by cases s; rfl
theorem cntL_mem : ∀ {l : List St0} {s : St0}, s ∈ l → cntS s ≤ cntL l
  | [], _, h => by cases h
  | x :: l, s, h => by
    simp only [cntL]
    rcases List.mem_cons.1 h with rfl | h
    · omega
    · have := cntL_mem h; omega
theorem cntL_len : ∀ l : List St0, l.length ≤ cntL l
  | [] => Nat.le_refl _
  | x :: l => by
    have := cntL_len l
    have := cntS_eq x
    simp only [cntL, List.length_cons]; omega
end Go.Proofs.Ytlcbnlfbbjmpbaa
