/- A machine of the first language, as data: its region, its object. Conditions: none. -/
import Derived.Test.YtkflggjdlflndaaGreatM9
import Derived.Test.YtkflggjdlflndaaGreatWX
import Derived.Test.YtkflggjdlflndaaGreatByX
import Derived.Test.YtkflggjdlflndaaGreatAbX8
set_option linter.unusedSimpArgs false
set_option linter.unusedVariables false
namespace Go.Proofs.YtkflggjdlflndaaGreat
open Go Go.Ab
/-- A value: a number, a cell. -/
abbrev Vl := Int × Option Nat
def ptrV : Option Nat → AV
  | none => .d .nilp
  | some k => .rp k 0
def vlA (v : Vl) : List AV := [.d (.int .i64 v.1), ptrV v.2]
/-- A frame, its variables (or a cell's fields), a cell. -/
inductive Blk where
  | fr (c : Cd1) (pc : Int) (vk vn : Nat) (up : Option Nat) (tv : Int)
  | vs (l : List Vl)
  | ce (al : Bool) (fk fn : Nat)
def valsA (l : List Vl) : List AV := (l.map vlA).flatten
def Blk.av : Blk → List AV
  | .fr c pc vk vn up tv => [.dp c.row, .d (.int .i64 pc), .rs vk 0 vn 2, ptrV up, .d (.int .i64 tv)]
  | .vs l => valsA l
  | .ce al fk fn => [.d (.bool al), .rs fk 0 fn 2]
def rgA (R : List Blk) : List (List AV) := R.map Blk.av
theorem get_rg {R : List Blk} {k : Nat} {b : Blk} (h : R[k]? = some b) : regGet (rgA R) k = some b.av := by
  unfold regGet rgA
  rw [List.getElem?_map, h]
  rfl
theorem set_rg {R : List Blk} {k off : Nat} {new : List AV} {b b' : Blk} (h : R[k]? = some b) (hl : off + new.length ≤ b.av.length) (hb : splice b.av off new = b'.av) : regSet (rgA R) k off new = some (rgA (R.set k b')) := by
  unfold regSet
  rw [get_rg h]
  simp only [regSetK]
  rw [if_pos hl, hb]
  unfold rgA
  rw [List.map_set]
theorem get_at {α : Type} {l : List α} {k : Nat} (h : k < l.length) {x : α} (e : l[k] = x) : l[k]? = some x := by rw [List.getElem?_eq_getElem h, e]
theorem vals_cons (v : Vl) (l : List Vl) : valsA (v :: l) = vlA v ++ valsA l := rfl
theorem vals_len (l : List Vl) : (valsA l).length = 2 * l.length := by
  induction l with
  | nil => rfl
  | cons v l ih => rw [vals_cons, List.length_append, ih]; simp [vlA]; omega
theorem vals_drop : ∀ (l : List Vl) (k : Nat), (valsA l).drop (k * 2) = valsA (l.drop k)
  | l, 0 => by simp
  | [], k + 1 => by simp [valsA]
  | v :: l, k + 1 => by
    rw [vals_cons, List.drop_succ_cons, ← vals_drop l k, show (k + 1) * 2 = (vlA v).length + k * 2 by simp [vlA]; omega, List.drop_append]
    simp
theorem vals_at {l : List Vl} {k : Nat} {v : Vl} (h : l[k]? = some v) : ((valsA l).drop (k * 2)).take 2 = vlA v := by
  rw [vals_drop]
  obtain ⟨hk, rfl⟩ := List.getElem?_eq_some_iff.1 h
  rw [List.drop_eq_getElem_cons hk, vals_cons]
  simp [vlA]
theorem vals_take : ∀ (l : List Vl) (k : Nat), (valsA l).take (k * 2) = valsA (l.take k)
  | l, 0 => by simp [valsA]
  | [], k + 1 => by simp [valsA]
  | v :: l, k + 1 => by
    rw [vals_cons, List.take_succ_cons, vals_cons, ← vals_take l k, show (k + 1) * 2 = (vlA v).length + k * 2 by simp [vlA]; omega, List.take_append]
    rw [List.take_of_length_le (by omega)]
    simp
theorem vals_set {l : List Vl} {k : Nat} (h : k < l.length) (v : Vl) : splice (valsA l) (k * 2) (vlA v) = valsA (l.set k v) := by
  unfold splice
  have e : l.set k v = l.take k ++ v :: l.drop (k + 1) := by
    rw [List.set_eq_take_append_cons_drop, if_pos h]
  rw [e, vals_take, show k * 2 + (vlA v).length = (k + 1) * 2 by simp [vlA]; omega, vals_drop]
  simp [valsA]
theorem vals_le {l : List Vl} {k : Nat} (h : k < l.length) : k * 2 + 2 ≤ (valsA l).length := by rw [vals_len]; omega
/-- A machine. -/
structure Mc where
  m : Md1
  inp : List Int
  fails : List Bool
  top : Option Nat
  cells : List Nat
  asked : Int
  kind : Int
  code : Int
  out : List Int
  steps : Int
  reg : List Blk
  es : Nat
  eg : Nat
def rowT (b : Bool) : List Dt := [.bool b]
def Mc.obj (s : Mc) : AObj := .cells [.d s.m.sr, .d s.m.fr, .d (.sl (s.inp.map rowU)), .d (.sl (s.fails.map rowT)), ptrV s.top, .stk 2 s.es s.cells.length, .d (.int .i64 s.asked), .d (.int .i64 s.kind), .d (.int .i64 s.code), .grow 3 s.eg (s.out.map rowU), .d (.int .i64 s.steps), .d (.int .i64 0)]
def cellA (k : Nat) : AV := .rp k 0
def Mc.H (s : Mc) : List AObj := [.reg (rgA s.reg), s.obj, .stk s.es 1 (s.cells.map cellA), .grow s.eg 1]
end Go.Proofs.YtkflggjdlflndaaGreat
