/- Clauses: what is known of the library, as data; lists of numbers. Conditions: none. -/
import Derived.Test.YtchedkjlhjfadaaTy
import Derived.Test.YtchedkjlhjfadaaHints
import Derived.Test.YtchedkjlhjfadaaLp
import Derived.Test.YtchedkjlhjfadaaAbX4
set_option linter.unusedSimpArgs false
set_option linter.unusedVariables false
namespace Go.Proofs.Ytchedkjlhjfadaa
open Go Go.Ab
variable {ext : Sem'}
def rowI (x : Int) : List Dt := [.int .i64 x]
def avI (x : Int) : AV := .d (.int .i64 x)
def ints (l : List Int) : Dt := .sl (l.map rowI)
theorem map_at {α β : Type} {f : α → β} {l : List α} {i : Nat} (h : i < l.length) : (l.map f)[i]? = some (f l[i]) := by rw [List.getElem?_map, List.getElem?_eq_getElem h]; rfl
theorem wrap64 {x : Int} (h1 : -9223372036854775808 ≤ x) (h2 : x ≤ 9223372036854775807) : IntKind.wrap .i64 x = x := by
  simp only [IntKind.wrap, IntKind.bits, IntKind.signed]
  simp
  omega
theorem av_refs (l : List Int) : (List.map refs (List.map avI l)).flatten = [] := by induction l with
  | nil => rfl
  | cons x l ih => simp only [List.map_cons, List.flatten_cons, ih]; rfl
theorem av_ren (f : Nat → Nat) (l : List Int) : List.map (ren f) (List.map avI l) = List.map avI l := by induction l with
  | nil => rfl
  | cons x l ih => simp only [List.map_cons, ih]; rfl
/-- Clauses in order: by variables, v ahead of -v. -/
def keyI (x : Int) : Int := if x < IntKind.wrap .i64 (0 - x) then IntKind.wrap .i64 (0 - x) else x
def ltI (a b : Int) : Bool := decide (keyI a < keyI b) || (decide (keyI a = keyI b) && decide (b < a))
def insI (x : Int) : List Int → List Int
  | [] => [x]
  | y :: l => if ltI y x then y :: insI x l else x :: y :: l
def sortL : List Int → List Int
  | [] => []
  | x :: l => insI x (sortL l)
def rowC (c : List Int) : List Dt := [.sl (c.map rowI)]
/-- A formula. -/
structure Fm where
  n : Int
  l : List (List Int)
def Fm.av (f : Fm) : AV := .agg [.d (.int .i64 f.n), .d (.sl (f.l.map rowC))]
def litP (n x : Int) : Bool := decide (x ≠ 0) && (decide (x ≤ n) && decide (IntKind.wrap .i64 (0 - n) ≤ x))
def allP (n : Int) (c : List Int) : Bool := c.all (litP n)
/-- A builder's memory. -/
def bldO (n : Int) (e : Nat) (out : List (List Int)) : List AObj := [.cells [.d (.int .i64 n), .grow 1 e (out.map rowC)], .grow e 1]
def bldC (n : Int) (e : Nat) (out : List (List Int)) (c : List Int) : List AObj := if allP n c then bldO n (e + 1) (out ++ [c]) else bldO n e out
/-- What is known of functions by themselves. -/
structure T0 (ext : Sem') : Prop where
  clear : Clear ext
/-- What is known besides. -/
structure TX (ext : Sem') : Prop extends T0 ext where
  clone0 : ext 102 [.d (.sl [])] [] = some (.ret (.d (.sl [])), [])
  clone1 : ∀ l : List Int, l ≠ [] → l.length ≤ 1000000 → ext 102 [.d (.sl (l.map rowI))] [] = some (.ret (.own 0 0 l.length 1), [.cells (l.map avI)])
  sort0 : ext 105 [.d (.sl []), .fn 106 [] []] [] = some (.ret (.tuple []), [])
  sort1 : ∀ l : List Int, l ≠ [] → l.length ≤ 1000000 → ext 105 [.own 0 0 l.length 1, .fn 106 [] []] [.cells (l.map avI)] = some (.ret (.tuple []), [.cells ((sortL l).map avI)])
  without : ∀ (l : List Int) (v : Int), l ≠ [] → l.length ≤ 1000000 → ext 100 [.d (.sl (l.map rowI)), .d (.int .i64 v)] [] = some (.ret (.grow 0 0 ((l.filter fun y => decide (y ≠ v)).map rowI)), [.grow 0 1])
/-- The first that is so. -/
def idxP {α : Type} (p : α → Bool) : List α → Option Nat
  | [] => none
  | x :: l => if p x then some 0 else (idxP p l).map (· + 1)
def idxN {α : Type} (p : α → Bool) (l : List α) : Int := match idxP p l with
  | some i => i
  | none => -1
theorem idxP_any {α : Type} {p : α → Bool} : ∀ {l : List α}, (idxP p l).isSome = l.any p
  | [] => rfl
  | x :: l => by
    unfold idxP
    split
    · rename_i h; simp [h]
    · rename_i h; simp [h, idxP_any (l := l)]
theorem idxN_any {α : Type} {p : α → Bool} {l : List α} : decide (0 ≤ idxN p l) = l.any p := by
  rw [← idxP_any]
  unfold idxN
  cases idxP p l with
  | none => rfl
  | some i => simp
/-- slices.IndexFunc of numbers, a function with one cell. -/
theorem index1_e (hx : T0 ext) (F : Nat) (p : Int → Bool) (cs : List AV) (k1 : (cs.map refs).flatten = []) (k2 : ∀ f, cs.map (ren f) = cs) (l : List Int) (hl : l.length ≤ 1000000) (hp : ∀ x, x ∈ l → G ext F [.d (.int .i64 x), .ptr 0 0] [.cells cs] = some (.ret (.d (.bool (p x))), [.cells cs])) :
    G ext 97 [.d (.sl (l.map rowI)), .fn F [] [.ptr 0 0]] [.cells cs] = some (.ret (.d (.int .i64 (idxN p l))), [.cells cs]) := by
  have hll : (l.map rowI).length = l.length := List.length_map _
  rw [G_body hx.clear rfl Try.func97 rfl Try.results97 hv_97 rfl]
  simp (config := { maxSteps := 4000000 }) (disch := first | (intros; contradiction) | omega) only [go_sem, k1]
  generalize hL : loopA _ _ _ = L
  apply range_upd hL (by simp (config := { maxSteps := 4000000 }) (disch := first | (intros; contradiction) | omega) only [go_sem, k1, k2] <;> rfl) l rowI (α := Unit) (fun rest k _ => idxP p l = (idxP p rest).map (k + ·)) (fun k _ => [(5, .any), (8, .d (.int .i64 k))]) (fun _ _ => []) () (by simp (config := { maxSteps := 4000000 }) (disch := first | (intros; contradiction) | omega) only [go_sem, k1, k2] <;> rfl) (by simp) ?_ ?_
  · intro x rest k _ hi hlt hr hxx hk _ next ih
    clear hL
    have hc := hp x (List.mem_of_getElem? hxx)
    simp only [rowI] at hr
    simp only [idxP] at hi
    cases hpx : p x with
    | true =>
      rw [hpx] at hc hi
      have h1 : idxN p l = k := by unfold idxN; rw [hi]; simp
      rw [h1]
      simp (config := { maxSteps := 4000000 }) (disch := first | (intros; contradiction) | omega) only [go_sem, k1, k2, hlt, hr, hc]
    | false =>
      rw [hpx] at hc hi
      simp (config := { maxSteps := 4000000 }) (disch := first | (intros; contradiction) | omega) only [go_sem, k1, k2, hlt, hr, hc, wrap64]
      exact ih () _ (by rw [hi]; simp only [Bool.false_eq_true, if_false, Option.map_map]; congr 1; funext n; simp only [Function.comp]; omega) (by simp (config := { maxSteps := 4000000 }) (disch := first | (intros; contradiction) | omega) only [go_sem, k1, k2] <;> rfl)
  · intro k _ hi hlt hk next
    clear hL
    have h1 : idxN p l = -1 := by unfold idxN; rw [hi]; rfl
    rw [h1]
    simp (config := { maxSteps := 4000000 }) (disch := first | (intros; contradiction) | omega) only [go_sem, k1, hlt]
/-- The same of a slice that is to be changed. -/
theorem index1o_e (hx : T0 ext) (F : Nat) (p : Int → Bool) (cs : List AV) (k1 : (cs.map refs).flatten = []) (k2 : ∀ f, cs.map (ren f) = cs) (l : List Int) (hl : l.length ≤ 1000000) (hp : ∀ x, x ∈ l → G ext F [.d (.int .i64 x), .ptr 0 0] [.cells cs] = some (.ret (.d (.bool (p x))), [.cells cs])) :
    G ext 97 [.own 0 0 l.length 1, .fn F [] [.ptr 1 0]] [.cells (l.map avI), .cells cs] = some (.ret (.d (.int .i64 (idxN p l))), [.cells (l.map avI), .cells cs]) := by
  have hll : (l.map avI).length = l.length := List.length_map _
  have a1 := av_refs l
  have a2 := fun f => av_ren f l
  rw [G_body hx.clear rfl Try.func97 rfl Try.results97 hv_97 rfl]
  simp (config := { maxSteps := 4000000 }) (disch := first | (intros; contradiction) | omega) only [go_sem, k1]
  generalize hL : loopA _ _ _ = L
  apply range_upd hL (by simp (config := { maxSteps := 4000000 }) (disch := first | (intros; contradiction) | omega) only [go_sem, k1, k2, a1, a2] <;> rfl) l rowI (α := Unit) (fun rest k _ => idxP p l = (idxP p rest).map (k + ·)) (fun k _ => [(5, .any), (8, .d (.int .i64 k))]) (fun _ _ => []) () (by simp (config := { maxSteps := 4000000 }) (disch := first | (intros; contradiction) | omega) only [go_sem, k1, k2] <;> rfl) (by simp) ?_ ?_
  · intro x rest k _ hi hlt hr hxx hk _ next ih
    clear hL
    have hc := hp x (List.mem_of_getElem? hxx)
    have hr : (l.map avI)[k]? = some (.d (.int .i64 x)) := by rw [List.getElem?_map, hxx]; rfl
    have hlt : (k : Int) < (l.length : Int) := by omega
    simp only [idxP] at hi
    cases hpx : p x with
    | true =>
      rw [hpx] at hc hi
      have h1 : idxN p l = k := by unfold idxN; rw [hi]; simp
      rw [h1]
      simp (config := { maxSteps := 4000000 }) (disch := first | (intros; contradiction) | omega) only [go_sem, k1, k2, a1, a2, hlt, hr, hc, Nat.mul_one]
    | false =>
      rw [hpx] at hc hi
      simp (config := { maxSteps := 4000000 }) (disch := first | (intros; contradiction) | omega) only [go_sem, k1, k2, a1, a2, hlt, hr, hc, wrap64, Nat.mul_one]
      exact ih () _ (by rw [hi]; simp only [Bool.false_eq_true, if_false, Option.map_map]; congr 1; funext n; simp only [Function.comp]; omega) (by simp (config := { maxSteps := 4000000 }) (disch := first | (intros; contradiction) | omega) only [go_sem, k1, k2, a1, a2] <;> rfl)
  · intro k _ hi hlt hk next
    clear hL
    have hlt : ¬ (k : Int) < (l.length : Int) := by omega
    have h1 : idxN p l = -1 := by unfold idxN; rw [hi]; rfl
    rw [h1]
    simp (config := { maxSteps := 4000000 }) (disch := first | (intros; contradiction) | omega) only [go_sem, k1, k2, a1, a2, hlt]
end Go.Proofs.Ytchedkjlhjfadaa
