/- Tokens as a program, as plain maths: one function for each of the parser's. Conditions: none. -/
import Derived.Test.YtlcbnlfbbjmpbaaPP
set_option linter.unusedSimpArgs false
set_option linter.unusedVariables false
namespace Go.Proofs.Ytlcbnlfbbjmpbaa
open Go Go.Ab
/-- What comes of some tokens: something, and what is left of them; or what is wrong. -/
abbrev PR (α : Type) := Except Dg (α × List Tok)
def PR.andThen {α β : Type} (x : PR α) (k : α → List Tok → PR β) : PR β := match x with
  | .ok (a, l) => k a l
  | .error d => .error d
def hdT (l : List Tok) : Tok := l.headD Tok.zero
def posT (l : List Tok) : Po := ⟨(hdT l).pos.1, (hdT l).pos.2⟩
def oddD (l : List Tok) : Dg := ⟨2, 3, (hdT l).pos⟩
def deepD (l : List Tok) : Dg := ⟨2, 4, (hdT l).pos⟩
def isT (l : List Tok) (s : Str) : Bool := (decide ((hdT l).kind = 2) || decide ((hdT l).kind = 4)) && decide ((hdT l).text = s)
def anyT (l : List Tok) (ss : List Str) : Bool := ss.any (isT l)
def eatT (s : Str) (l : List Tok) : PR Unit := if isT l s then .ok ((), l.tail) else .error (oddD l)
def nameT (l : List Tok) : PR Tok := if (hdT l).kind = 1 then .ok (hdT l, l.tail) else .error (oddD l)
def builtT (e : Ex0) (l : List Tok) : PR Ex0 := if 200 < hgtE e then .error ⟨2, 4, (e.pos.line, e.pos.col)⟩ else .ok (e, l)
/-- What stands in brackets. -/
def argsL (E : List Tok → PR Ex0) : Nat → List Ex0 → List Tok → PR (List Ex0)
  | 0, _, l => .error (oddD l)
  | n + 1, out, l => if isT l [41] then .ok (out, l.tail) else
    PR.andThen (if out.isEmpty then .ok ((), l) else eatT [44] l) fun _ l => PR.andThen (E l) fun e l => argsL E n (out ++ [e]) l
def argsT (E : Option (List Tok → PR Ex0)) (l : List Tok) : PR (List Ex0) := match E with
  | none => .error (deepD l)
  | some E => argsL E l.length [] l.tail
def innerT (E : Option (List Tok → PR Ex0)) (l : List Tok) : PR Ex0 := match E with
  | none => .error (deepD l)
  | some E => PR.andThen (E l.tail) fun e l => PR.andThen (eatT [41] l) fun _ l => .ok (e, l)
def primT (E : Option (List Tok → PR Ex0)) (l : List Tok) : PR Ex0 :=
  if (hdT l).kind = 3 then builtT (.mk 1 (hdT l).num [] [] [] (posT l)) l.tail
  else if (hdT l).kind = 1 then
    (if isT l.tail [40] then PR.andThen (argsT E l.tail) fun ks l' => builtT (.mk 9 0 (hdT l).text [] ks (posT l)) l' else builtT (.mk 2 0 (hdT l).text [] [] (posT l)) l.tail)
  else if isT l [110, 117, 108, 108] then builtT (.mk 6 0 [] [] [] (posT l)) l.tail
  else if isT l [110, 101, 119] then PR.andThen (nameT l.tail) fun t l' => builtT (.mk 7 0 t.text [] [] (posT l)) l'
  else if isT l [103, 101, 116] then PR.andThen (eatT [40] l.tail) fun _ l1 => PR.andThen (eatT [41] l1) fun _ l2 => builtT (.mk 8 0 [] [] [] (posT l)) l2
  else if isT l [40] then innerT E l
  else .error (oddD l)
def arrowL : Nat → Ex0 → List Tok → PR Ex0
  | 0, e, l => .ok (e, l)
  | n + 1, e, l => if isT l [45, 62] then PR.andThen (nameT l.tail) fun t l' => PR.andThen (builtT (.mk 3 0 t.text [] [e] (posT l)) l') fun e l' => arrowL n e l' else .ok (e, l)
def unaryK (U E : Option (List Tok → PR Ex0)) (l : List Tok) : PR Ex0 :=
  if anyT l [[45], [33]] then (match U with
    | none => .error (deepD l)
    | some U => PR.andThen (U l.tail) fun x l' => builtT (.mk 5 0 [] (hdT l).text [x] (posT l)) l')
  else PR.andThen (primT E l) fun e l' => arrowL l'.length e l'
/-- A chain, built from the left. -/
def chainL (P : List Tok → PR Ex0) (ops : List Str) : Nat → Ex0 → List Tok → PR Ex0
  | 0, e, l => .ok (e, l)
  | n + 1, e, l => if anyT l ops then PR.andThen (P l.tail) fun x l' => PR.andThen (builtT (.mk 4 0 [] (hdT l).text [e, x] (posT l)) l') fun e l' => chainL P ops n e l' else .ok (e, l)
def leftT (P : List Tok → PR Ex0) (ops : List Str) (l : List Tok) : PR Ex0 := PR.andThen (P l) fun e l' => chainL P ops l'.length e l'
def opsM : List Str := [[42], [47], [37]]
def opsA : List Str := [[43], [45]]
def opsC : List Str := [[61, 61], [33, 61], [60], [60, 61], [62], [62, 61]]
def termK (U : List Tok → PR Ex0) : List Tok → PR Ex0 := leftT U opsM
def sumK (U : List Tok → PR Ex0) : List Tok → PR Ex0 := leftT (termK U) opsA
def exprK (U : List Tok → PR Ex0) (l : List Tok) : PR Ex0 := PR.andThen (sumK U l) fun e l => if anyT l opsC then PR.andThen (sumK U l.tail) fun x l' => builtT (.mk 4 0 [] (hdT l).text [e, x] (posT l)) l' else .ok (e, l)
/-- So many levels may still come. -/
def unaryT : Nat → List Tok → PR Ex0
  | 0 => unaryK none none
  | m + 1 => unaryK (some (unaryT m)) (some (exprK (unaryT m)))
def exprT (m : Nat) : List Tok → PR Ex0 := exprK (unaryT m)
def lowE : Nat → Option (List Tok → PR Ex0)
  | 0 => none
  | m + 1 => some (exprT m)
def lowU : Nat → Option (List Tok → PR Ex0)
  | 0 => none
  | m + 1 => some (unaryT m)
theorem unaryT_eq (m : Nat) : unaryT m = unaryK (lowU m) (lowE m) := by cases m <;> rfl
def typeT (l : List Tok) : PR Tp := if isT l [105, 110, 116] then .ok (⟨false, []⟩, l.tail) else PR.andThen (nameT l) fun t l => PR.andThen (eatT [42] l) fun _ l => .ok (⟨true, t.text⟩, l)
/-- if, or while, behind its word. -/
def branchT (E : List Tok → PR Ex0) (B : List Tok → PR (List St0)) (k : Int) (p : Po) (l : List Tok) : PR St0 :=
  PR.andThen (eatT [40] l) fun _ l => PR.andThen (E l) fun e l => PR.andThen (eatT [41] l) fun _ l => PR.andThen (B l) fun b l =>
    if k = 4 ∧ isT l [101, 108, 115, 101] = true then PR.andThen (B l.tail) fun c l => .ok (.mk k ⟨false, []⟩ [] [e] b c p, l) else .ok (.mk k ⟨false, []⟩ [] [e] b [] p, l)
/-- What stands ahead of a '=', behind a first name: the kind, the name, what it is a field of, where. -/
def targetL : Nat → Int → Str → Ex0 → Po → List Tok → PR (Int × Str × Ex0)
  | 0, k, nm, e, _, l => .ok ((k, nm, e), l)
  | n + 1, k, nm, e, last, l => if isT l [45, 62] then PR.andThen (nameT l.tail) fun t l' =>
      PR.andThen (if k = 3 then builtT (.mk 3 0 nm [] [e] last) l' else .ok (e, l')) fun e l' => targetL n 3 t.text e (posT l) l'
    else .ok ((k, nm, e), l)
def targetT (E : List Tok → PR Ex0) (first : Tok) (p : Po) (l : List Tok) : PR St0 :=
  PR.andThen (targetL l.length 2 first.text (.mk 2 0 first.text [] [] ⟨first.pos.1, first.pos.2⟩) ⟨0, 0⟩ l) fun x l => PR.andThen (eatT [61] l) fun _ l => PR.andThen (E l) fun e l =>
    .ok (.mk x.1 ⟨false, []⟩ x.2.1 (if x.1 = 3 then [x.2.2, e] else [e]) [] [] p, l)
def typedT (l : List Tok) : Bool := isT l [105, 110, 116] || (decide ((hdT l).kind = 1) && (decide ((hdT l.tail).kind = 4) && decide ((hdT l.tail).text = [42])))
/-- A statement that is ended, ahead of its end. -/
def plainT (E : List Tok → PR Ex0) (A : List Tok → PR (List Ex0)) (l : List Tok) : PR St0 :=
  if isT l [98, 114, 101, 97, 107] then .ok (.mk 6 ⟨false, []⟩ [] [] [] [] (posT l), l.tail)
  else if isT l [99, 111, 110, 116, 105, 110, 117, 101] then .ok (.mk 7 ⟨false, []⟩ [] [] [] [] (posT l), l.tail)
  else if isT l [114, 101, 116, 117, 114, 110] then PR.andThen (E l.tail) fun e l' => .ok (.mk 8 ⟨false, []⟩ [] [e] [] [] (posT l), l')
  else if isT l [102, 114, 101, 101] then PR.andThen (eatT [40] l.tail) fun _ l1 => PR.andThen (nameT l1) fun t l2 => PR.andThen (eatT [41] l2) fun _ l3 => .ok (.mk 9 ⟨false, []⟩ t.text [] [] [] (posT l), l3)
  else if isT l [112, 117, 116] then PR.andThen (eatT [40] l.tail) fun _ l1 => PR.andThen (E l1) fun e l2 => PR.andThen (eatT [41] l2) fun _ l3 => .ok (.mk 10 ⟨false, []⟩ [] [e] [] [] (posT l), l3)
  else if typedT l then PR.andThen (typeT l) fun t l1 => PR.andThen (nameT l1) fun n l2 => PR.andThen (eatT [61] l2) fun _ l3 => PR.andThen (E l3) fun e l4 => .ok (.mk 1 t n.text [e] [] [] (posT l), l4)
  else if (hdT l).kind = 1 then
    (if isT l.tail [40] then PR.andThen (A l.tail) fun ks l' => PR.andThen (builtT (.mk 9 0 (hdT l).text [] ks (posT l)) l') fun e l' => .ok (.mk 11 ⟨false, []⟩ [] [e] [] [] (posT l), l')
     else targetT E (hdT l) (posT l) l.tail)
  else .error (oddD l)
def stmtK (E : List Tok → PR Ex0) (A : List Tok → PR (List Ex0)) (B : List Tok → PR (List St0)) (l : List Tok) : PR St0 :=
  if isT l [105, 102] then branchT E B 4 (posT l) l.tail
  else if isT l [119, 104, 105, 108, 101] then branchT E B 5 (posT l) l.tail
  else PR.andThen (plainT E A l) fun s l => PR.andThen (eatT [59] l) fun _ l => .ok (s, l)
def stmtsL (S : List Tok → PR St0) : Nat → List St0 → List Tok → PR (List St0)
  | 0, _, l => .error (oddD l)
  | n + 1, out, l => if isT l [125] then .ok (out, l.tail) else PR.andThen (S l) fun s l => stmtsL S n (out ++ [s]) l
def blockK (S : Option (List Tok → PR St0)) (l : List Tok) : PR (List St0) :=
  if isT l [123] then (match S with
    | none => .error (deepD l)
    | some S => stmtsL S l.length [] l.tail)
  else .error (oddD l)
def blockT : Nat → List Tok → PR (List St0)
  | 0 => blockK none
  | m + 1 => blockK (some (stmtK (exprT m) (argsT (lowE m)) (blockT m)))
def stmtT (m : Nat) : List Tok → PR St0 := stmtK (exprT m) (argsT (lowE m)) (blockT m)
def lowS : Nat → Option (List Tok → PR St0)
  | 0 => none
  | m + 1 => some (stmtT m)
theorem blockT_eq (m : Nat) : blockT m = blockK (lowS m) := by cases m <;> rfl
def fieldT (l : List Tok) : PR Fl0 := PR.andThen (typeT l) fun t l => PR.andThen (nameT l) fun n l => .ok (⟨n.text, t, ⟨n.pos.1, n.pos.2⟩⟩, l)
def fieldsL : Nat → List Fl0 → List Tok → PR (List Fl0)
  | 0, _, l => .error (oddD l)
  | n + 1, out, l => if isT l [125] then .ok (out, l.tail) else PR.andThen (fieldT l) fun f l => PR.andThen (eatT [59] l) fun _ l => fieldsL n (out ++ [f]) l
def structT (l : List Tok) : PR Sr0 := PR.andThen (nameT l.tail) fun t l1 => PR.andThen (eatT [123] l1) fun _ l2 => PR.andThen (fieldsL l2.length [] l2) fun fs l3 => PR.andThen (eatT [59] l3) fun _ l4 => .ok (⟨t.text, fs, posT l⟩, l4)
def paramsL : Nat → List Fl0 → List Tok → PR (List Fl0)
  | 0, _, l => .error (oddD l)
  | n + 1, out, l => if isT l [41] then .ok (out, l.tail) else
    PR.andThen (if out.isEmpty then .ok ((), l) else eatT [44] l) fun _ l => PR.andThen (fieldT l) fun f l => paramsL n (out ++ [f]) l
def funcT (l : List Tok) : PR Fn0 := PR.andThen (typeT l) fun t l1 => PR.andThen (nameT l1) fun n l2 => PR.andThen (eatT [40] l2) fun _ l3 => PR.andThen (paramsL l3.length [] l3) fun ps l4 => PR.andThen (blockT 200 l4) fun b l5 => .ok (⟨n.text, ps, t, b, posT l⟩, l5)
def partsL : Nat → Pr0 → List Tok → PR Pr0
  | 0, p, l => .ok (p, l)
  | n + 1, p, l => if (hdT l).kind = 5 then .ok (p, l)
    else if isT l [115, 116, 114, 117, 99, 116] then PR.andThen (structT l) fun s l => partsL n ⟨p.structs ++ [s], p.funcs⟩ l
    else PR.andThen (funcT l) fun f l => partsL n ⟨p.structs, p.funcs ++ [f]⟩ l
/-- Has the last token, and no other, the kind of an end? -/
def Ended (l : List Tok) : Prop := ∃ a t, l = a ++ [t] ∧ t.kind = 5 ∧ ∀ x, x ∈ a → x.kind ≠ 5
end Go.Proofs.Ytlcbnlfbbjmpbaa
