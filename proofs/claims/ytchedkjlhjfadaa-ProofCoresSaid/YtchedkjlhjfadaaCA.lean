/- Clauses: what is known of the library, as data; lists of numbers; slices.DeleteFunc of numbers; slices.Compact of numbers; cnf: clauses in order; which formulas are right; cnf: which formulas are right, and true; cnf: which formulas are true in a model. Conditions: none. -/
import Derived.Test.YtchedkjlhjfadaaTy
import Derived.Test.YtchedkjlhjfadaaHints
import Derived.Test.YtchedkjlhjfadaaLp
import Derived.Test.YtchedkjlhjfadaaAbX4
set_option linter.unusedSimpArgs false
set_option linter.unusedVariables false
namespace Go.Proofs.Ytchedkjlhjfadaa
open Go Go.Ab
variable {ext : Sem'}
def rowI (x : Int) : List Dt := [.int .i64 x]
def avI (x : Int) : AV := .d (.int .i64 x)
def ints (l : List Int) : Dt := .sl (l.map rowI)
theorem map_at {α β : Type} {f : α → β} {l : List α} {i : Nat} (h : i < l.length) : (l.map f)[i]? = some (f l[i]) := by rw [List.getElem?_map, List.getElem?_eq_getElem h]; rfl
theorem wrap64 {x : Int} (h1 : -9223372036854775808 ≤ x) (h2 : x ≤ 9223372036854775807) : IntKind.wrap .i64 x = x := by
  simp only [IntKind.wrap, IntKind.bits, IntKind.signed]
  simp
  omega
theorem av_refs (l : List Int) : (List.map refs (List.map avI l)).flatten = [] := by induction l with
  | nil => rfl
  | cons x l ih => simp only [List.map_cons, List.flatten_cons, ih]; rfl
theorem av_ren (f : Nat → Nat) (l : List Int) : List.map (ren f) (List.map avI l) = List.map avI l := by induction l with
  | nil => rfl
  | cons x l ih => simp only [List.map_cons, ih]; rfl
/-- Clauses in order: by variables, v ahead of -v. -/
def keyI (x : Int) : Int := if x < IntKind.wrap .i64 (0 - x) then IntKind.wrap .i64 (0 - x) else x
def ltI (a b : Int) : Bool := decide (keyI a < keyI b) || (decide (keyI a = keyI b) && decide (b < a))
def insI (x : Int) : List Int → List Int
  | [] => [x]
  | y :: l => if ltI y x then y :: insI x l else x :: y :: l
def sortL : List Int → List Int
  | [] => []
  | x :: l => insI x (sortL l)
def rowC (c : List Int) : List Dt := [.sl (c.map rowI)]
/-- A formula. -/
structure Fm where
  n : Int
  l : List (List Int)
def Fm.av (f : Fm) : AV := .agg [.d (.int .i64 f.n), .d (.sl (f.l.map rowC))]
def litP (n x : Int) : Bool := decide (x ≠ 0) && (decide (x ≤ n) && decide (IntKind.wrap .i64 (0 - n) ≤ x))
def allP (n : Int) (c : List Int) : Bool := c.all (litP n)
/-- A builder's memory. -/
def bldO (n : Int) (e : Nat) (out : List (List Int)) : List AObj := [.cells [.d (.int .i64 n), .grow 1 e (out.map rowC)], .grow e 1]
def bldC (n : Int) (e : Nat) (out : List (List Int)) (c : List Int) : List AObj := if allP n c then bldO n (e + 1) (out ++ [c]) else bldO n e out
/-- What is known of functions by themselves. -/
structure T0 (ext : Sem') : Prop where
  clear : Clear ext
/-- What is known besides. -/
structure TX (ext : Sem') : Prop extends T0 ext where
  clone0 : ext 102 [.d (.sl [])] [] = some (.ret (.d (.sl [])), [])
  clone1 : ∀ l : List Int, l ≠ [] → l.length ≤ 1000000 → ext 102 [.d (.sl (l.map rowI))] [] = some (.ret (.own 0 0 l.length 1), [.cells (l.map avI)])
  sort0 : ext 105 [.d (.sl []), .fn 106 [] []] [] = some (.ret (.tuple []), [])
  sort1 : ∀ l : List Int, l ≠ [] → l.length ≤ 1000000 → ext 105 [.own 0 0 l.length 1, .fn 106 [] []] [.cells (l.map avI)] = some (.ret (.tuple []), [.cells ((sortL l).map avI)])
  without : ∀ (l : List Int) (v : Int), l ≠ [] → l.length ≤ 1000000 → ext 100 [.d (.sl (l.map rowI)), .d (.int .i64 v)] [] = some (.ret (.grow 0 0 ((l.filter fun y => decide (y ≠ v)).map rowI)), [.grow 0 1])
/-- The first that is so. -/
def idxP {α : Type} (p : α → Bool) : List α → Option Nat
  | [] => none
  | x :: l => if p x then some 0 else (idxP p l).map (· + 1)
def idxN {α : Type} (p : α → Bool) (l : List α) : Int := match idxP p l with
  | some i => i
  | none => -1
theorem idxP_any {α : Type} {p : α → Bool} : ∀ {l : List α}, (idxP p l).isSome = l.any p
  | [] => rfl
  | x :: l => by
    unfold idxP
    split
    · rename_i h; simp [h]
    · rename_i h; simp [h, idxP_any (l := l)]
theorem idxN_any {α : Type} {p : α → Bool} {l : List α} : decide (0 ≤ idxN p l) = l.any p := by
  rw [← idxP_any]
  unfold idxN
  cases idxP p l with
  | none => rfl
  | some i => simp
/-- slices.IndexFunc of numbers, a function with one cell. -/
theorem index1_e (hx : T0 ext) (F : Nat) (p : Int → Bool) (cs : List AV) (k1 : (cs.map refs).flatten = []) (k2 : ∀ f, cs.map (ren f) = cs) (l : List Int) (hl : l.length ≤ 1000000) (hp : ∀ x, x ∈ l → G ext F [.d (.int .i64 x), .ptr 0 0] [.cells cs] = some (.ret (.d (.bool (p x))), [.cells cs])) :
    G ext 97 [.d (.sl (l.map rowI)), .fn F [] [.ptr 0 0]] [.cells cs] = some (.ret (.d (.int .i64 (idxN p l))), [.cells cs]) := by
  have hll : (l.map rowI).length = l.length := List.length_map _
  rw [G_body hx.clear rfl Try.func97 rfl Try.results97 hv_97 rfl]
  simp (config := { maxSteps := 4000000 }) (disch := first | (intros; contradiction) | omega) only [go_sem, k1]
  generalize hL : loopA _ _ _ = L
  apply range_upd hL (by simp (config := { maxSteps := 4000000 }) (disch := first | (intros; contradiction) | omega) only [go_sem, k1, k2] <;> rfl) l rowI (α := Unit) (fun rest k _ => idxP p l = (idxP p rest).map (k + ·)) (fun k _ => [(5, .any), (8, .d (.int .i64 k))]) (fun _ _ => []) () (by simp (config := { maxSteps := 4000000 }) (disch := first | (intros; contradiction) | omega) only [go_sem, k1, k2] <;> rfl) (by simp) ?_ ?_
  · intro x rest k _ hi hlt hr hxx hk _ next ih
    clear hL
    have hc := hp x (List.mem_of_getElem? hxx)
    simp only [rowI] at hr
    simp only [idxP] at hi
    cases hpx : p x with
    | true =>
      rw [hpx] at hc hi
      have h1 : idxN p l = k := by unfold idxN; rw [hi]; simp
      rw [h1]
      simp (config := { maxSteps := 4000000 }) (disch := first | (intros; contradiction) | omega) only [go_sem, k1, k2, hlt, hr, hc]
    | false =>
      rw [hpx] at hc hi
      simp (config := { maxSteps := 4000000 }) (disch := first | (intros; contradiction) | omega) only [go_sem, k1, k2, hlt, hr, hc, wrap64]
      exact ih () _ (by rw [hi]; simp only [Bool.false_eq_true, if_false, Option.map_map]; congr 1; funext n; simp only [Function.comp]; omega) (by simp (config := { maxSteps := 4000000 }) (disch := first | (intros; contradiction) | omega) only [go_sem, k1, k2] <;> rfl)
  · intro k _ hi hlt hk next
    clear hL
    have h1 : idxN p l = -1 := by unfold idxN; rw [hi]; rfl
    rw [h1]
    simp (config := { maxSteps := 4000000 }) (disch := first | (intros; contradiction) | omega) only [go_sem, k1, hlt]
/-- The same of a slice that is to be changed. -/
theorem index1o_e (hx : T0 ext) (F : Nat) (p : Int → Bool) (cs : List AV) (k1 : (cs.map refs).flatten = []) (k2 : ∀ f, cs.map (ren f) = cs) (l : List Int) (hl : l.length ≤ 1000000) (hp : ∀ x, x ∈ l → G ext F [.d (.int .i64 x), .ptr 0 0] [.cells cs] = some (.ret (.d (.bool (p x))), [.cells cs])) :
    G ext 97 [.own 0 0 l.length 1, .fn F [] [.ptr 1 0]] [.cells (l.map avI), .cells cs] = some (.ret (.d (.int .i64 (idxN p l))), [.cells (l.map avI), .cells cs]) := by
  have hll : (l.map avI).length = l.length := List.length_map _
  have a1 := av_refs l
  have a2 := fun f => av_ren f l
  rw [G_body hx.clear rfl Try.func97 rfl Try.results97 hv_97 rfl]
  simp (config := { maxSteps := 4000000 }) (disch := first | (intros; contradiction) | omega) only [go_sem, k1]
  generalize hL : loopA _ _ _ = L
  apply range_upd hL (by simp (config := { maxSteps := 4000000 }) (disch := first | (intros; contradiction) | omega) only [go_sem, k1, k2, a1, a2] <;> rfl) l rowI (α := Unit) (fun rest k _ => idxP p l = (idxP p rest).map (k + ·)) (fun k _ => [(5, .any), (8, .d (.int .i64 k))]) (fun _ _ => []) () (by simp (config := { maxSteps := 4000000 }) (disch := first | (intros; contradiction) | omega) only [go_sem, k1, k2] <;> rfl) (by simp) ?_ ?_
  · intro x rest k _ hi hlt hr hxx hk _ next ih
    clear hL
    have hc := hp x (List.mem_of_getElem? hxx)
    have hr : (l.map avI)[k]? = some (.d (.int .i64 x)) := by rw [List.getElem?_map, hxx]; rfl
    have hlt : (k : Int) < (l.length : Int) := by omega
    simp only [idxP] at hi
    cases hpx : p x with
    | true =>
      rw [hpx] at hc hi
      have h1 : idxN p l = k := by unfold idxN; rw [hi]; simp
      rw [h1]
      simp (config := { maxSteps := 4000000 }) (disch := first | (intros; contradiction) | omega) only [go_sem, k1, k2, a1, a2, hlt, hr, hc, Nat.mul_one]
    | false =>
      rw [hpx] at hc hi
      simp (config := { maxSteps := 4000000 }) (disch := first | (intros; contradiction) | omega) only [go_sem, k1, k2, a1, a2, hlt, hr, hc, wrap64, Nat.mul_one]
      exact ih () _ (by rw [hi]; simp only [Bool.false_eq_true, if_false, Option.map_map]; congr 1; funext n; simp only [Function.comp]; omega) (by simp (config := { maxSteps := 4000000 }) (disch := first | (intros; contradiction) | omega) only [go_sem, k1, k2, a1, a2] <;> rfl)
  · intro k _ hi hlt hk next
    clear hL
    have hlt : ¬ (k : Int) < (l.length : Int) := by omega
    have h1 : idxN p l = -1 := by unfold idxN; rw [hi]; rfl
    rw [h1]
    simp (config := { maxSteps := 4000000 }) (disch := first | (intros; contradiction) | omega) only [go_sem, k1, k2, a1, a2, hlt]
end Go.Proofs.Ytchedkjlhjfadaa
namespace Go.Proofs.Ytchedkjlhjfadaa
open Go Go.Ab
variable {ext : Sem'}
theorem data_av (l : List Int) : dataAs (l.map avI) = some (l.map fun x => .int .i64 x) := by
  induction l with
  | nil => rfl
  | cons x l ih => simp only [List.map_cons, dataAs, avI, dataA, ih]
theorem chunk_one (f : Int → Dt) (l : List Int) : chunk 1 l.length (l.map f) = l.map fun x => [f x] := by
  induction l with
  | nil => rfl
  | cons x l ih => simp only [List.length_cons, List.map_cons, chunk, List.take_succ_cons, List.take_zero, List.drop_succ_cons, List.drop_zero, ih]
/-- What is handed over of the first of numbers. -/
theorem give_first (a b : List Int) : (if a.length ≤ (List.map avI (a ++ b)).length then dataAs (List.take a.length (List.map avI (a ++ b))) else none) = some (a.map fun x => Dt.int .i64 x) := by
  rw [if_pos (by simp), List.map_append, List.take_left' (by simp), data_av]
theorem chunk_ints (a : List Int) : chunk 1 a.length (a.map fun x => Dt.int .i64 x) = a.map rowI := chunk_one _ _
theorem idx_split {p : Int → Bool} : ∀ {l : List Int} {i : Nat}, idxP p l = some i → ∃ x r, l = l.take i ++ x :: r ∧ p x = true ∧ (∀ y, y ∈ l.take i → p y = false) ∧ i < l.length ∧ r = l.drop (i + 1)
  | [], i, h => by cases h
  | x :: l, i, h => by
    unfold idxP at h
    split at h
    · rename_i hp; cases h; exact ⟨x, l, by simp, hp, by simp, by simp, by simp⟩
    · rename_i hp
      cases hl : idxP p l with
      | none => rw [hl] at h; cases h
      | some j =>
        rw [hl] at h
        cases h
        obtain ⟨y, r, h1, h2, h3, h4, h5⟩ := idx_split hl
        refine ⟨y, r, by simp only [Option.map_some]; rw [List.take_succ_cons, List.cons_append, ← h1], h2, ?_, by simp; exact h4, by simp [h5]⟩
        intro z hz
        rw [List.take_succ_cons] at hz
        rcases List.mem_cons.1 hz with rfl | hz
        · simpa using hp
        · exact h3 z hz
theorem idx_none {p : Int → Bool} : ∀ {l : List Int}, idxP p l = none → ∀ y, y ∈ l → p y = false
  | [], _, y, hy => by cases hy
  | x :: l, h, y, hy => by
    unfold idxP at h
    split at h
    · cases h
    · rename_i hp
      rcases List.mem_cons.1 hy with rfl | hy
      · simpa using hp
      · exact idx_none (by simpa using h) y hy
theorem set_av {l : List Int} {a : Nat} {y : Int} (h : a < l.length) : List.take a (List.map avI l) ++ [.d (.int .i64 y)] ++ List.drop (a + 1) (List.map avI l) = (l.set a y).map avI := by
  rw [List.set_eq_take_append_cons_drop, if_pos h, List.map_append, List.map_cons, List.map_take, List.map_drop, List.append_assoc]
  rfl
theorem give_cut {l : List Int} {a : Nat} (Z D : List AV) (h : a ≤ l.length) : (if a ≤ (List.take a (List.map avI l)).length + Z.length + D.length then dataAs (List.take a (List.take a (List.map avI l) ++ Z ++ D)) else none) = some ((l.take a).map fun x => Dt.int .i64 x) := by
  have hl : (List.take a (List.map avI l)).length = a := by simp; omega
  rw [if_pos (by omega), List.append_assoc, List.take_left' hl, ← List.map_take, data_av]
theorem take_set_same {l : List Int} {a : Nat} {y : Int} : List.take a (l.set a y) = List.take a l := by
  induction l generalizing a with
  | nil => rfl
  | cons x l ih => cases a with
    | zero => rfl
    | succ a => simp only [List.set_cons_succ, List.take_succ_cons, ih]
set_option maxHeartbeats 2000000 in
theorem delete0_e (hx : TX ext) (F : Nat) (cs : List AV) (k1 : (cs.map refs).flatten = []) (k2 : ∀ f, cs.map (ren f) = cs) :
    G ext 101 [.d (.sl []), .fn F [] [.ptr 0 0]] [.cells cs] = some (.ret (.d (.sl [])), [.cells cs]) := by
  have hi := index1_e hx.toT0 F (fun _ => false) cs k1 k2 [] (by simp) (fun x h => by cases h)
  simp only [List.map_nil, idxN, idxP] at hi
  rw [G_body hx.clear rfl Try.func101 rfl Try.results101 hv_101 rfl]
  simp (config := { maxSteps := 4000000 }) (disch := first | (intros; contradiction) | omega) only [go_sem, k1, k2, hi]
set_option maxHeartbeats 2000000 in
theorem delete1_e (hx : TX ext) (F : Nat) (p : Int → Bool) (cs : List AV) (k1 : (cs.map refs).flatten = []) (k2 : ∀ f, cs.map (ren f) = cs) (l : List Int) (hl : l.length ≤ 1000000) (hp : ∀ x, x ∈ l → G ext F [.d (.int .i64 x), .ptr 0 0] [.cells cs] = some (.ret (.d (.bool (p x))), [.cells cs])) :
    G ext 101 [.own 0 0 l.length 1, .fn F [] [.ptr 1 0]] [.cells (l.map avI), .cells cs] = some (.ret (.d (.sl ((l.filter fun y => !p y).map rowI))), [.no, .cells cs]) := by
  have hll : (l.map avI).length = l.length := List.length_map _
  have hi := index1o_e hx.toT0 F p cs k1 k2 l hl hp
  have a1 := fun l => av_refs l
  have a2 := fun l f => av_ren f l
  have hch := chunk_ints
  rw [G_body hx.clear rfl Try.func101 rfl Try.results101 hv_101 rfl]
  cases hix : idxP p l with
  | none =>
    have hn : idxN p l = -1 := by unfold idxN; rw [hix]
    rw [hn] at hi
    have hf : (l.filter fun y => !p y) = l := List.filter_eq_self.2 (fun y hy => by rw [idx_none hix y hy]; rfl)
    rw [hf]
    have hg := give_first l []
    rw [List.append_nil] at hg
    simp (config := { maxSteps := 4000000 }) (disch := first | (intros; contradiction) | omega) only [go_sem, k1, k2, a1, a2, hi, hg, hch, Nat.mul_one]
  | some i =>
    have hn : idxN p l = i := by unfold idxN; rw [hix]
    rw [hn] at hi
    obtain ⟨x, r, h1, h2, h3, h4, h5⟩ := idx_split hix
    have hne : ¬ (i : Int) = -1 := by omega
    simp (config := { maxSteps := 4000000 }) (disch := first | (intros; contradiction) | omega) only [go_sem, k1, k2, a1, a2, hi, hne, wrap64]
    generalize hL : loopA _ _ _ = L
    apply loop_upd hL (by simp (config := { maxSteps := 4000000 }) (disch := first | (intros; contradiction) | omega) only [go_sem, k1, k2, a1, a2] <;> rfl) (fun s : Nat × Nat × List Int => s.2.2.length = l.length ∧ s.1 < s.2.1 ∧ s.2.1 ≤ l.length ∧ s.2.2.take s.1 = (l.take s.2.1).filter (fun y => !p y) ∧ s.2.2.drop s.2.1 = l.drop s.2.1) (fun s => l.length - s.2.1)
      (fun s => [(5, .d (.int .i64 s.1)), (6, .d (.int .i64 s.2.1)), (7, .any)]) (fun s => [(0, .cells (s.2.2.map avI))]) (i, i + 1, l) (by simp (config := { maxSteps := 4000000 }) (disch := first | (intros; contradiction) | omega) only [go_sem, k1, k2, a1, a2] <;> rfl) ⟨rfl, by simp, h4, ?_, rfl⟩ ?_
    · simp only
      rw [List.take_succ_eq_append_getElem h4, List.filter_append]
      have e1 : l[i] = x := by
        have := congrArg (fun m => m[i]?) h1
        simp only [List.getElem?_eq_getElem h4] at this
        rw [List.getElem?_append_right (by simp; omega)] at this
        simpa [Nat.min_eq_left (Nat.le_of_lt h4)] using this
      rw [e1]
      have e2 : (l.take i).filter (fun y => !p y) = l.take i := List.filter_eq_self.2 (fun y hy => by rw [h3 y hy]; rfl)
      rw [e2]
      simp [h2]
    · rintro ⟨a, j, cur⟩ ⟨i1, i2, i3, i4, i5⟩ next ih
      clear hL
      simp only at i1 i2 i3 i4 i5 ih ⊢
      have hcl : (cur.map avI).length = l.length := by simp [i1]
      by_cases hj : j < l.length
      · have hlt : (j : Int) < (l.length : Int) := by omega
        have hcj : cur[j]? = some l[j] := by
          have := congrArg (fun m => m[0]?) i5
          simpa [List.getElem?_eq_getElem hj] using this
        have hr : (cur.map avI)[j]? = some (.d (.int .i64 l[j])) := by rw [List.getElem?_map, hcj]; rfl
        have hc := hp l[j] (List.getElem_mem hj)
        have htk := List.take_succ_eq_append_getElem hj
        have hdr : cur.drop (j + 1) = l.drop (j + 1) := by
          have := congrArg (List.drop 1) i5
          simpa [List.drop_drop, Nat.add_comm] using this
        generalize l[j] = y at hr hc htk
        cases hpy : p y with
        | true =>
          rw [hpy] at hc
          simp (config := { maxSteps := 4000000 }) (disch := first | (intros; contradiction) | omega) only [go_sem, k1, k2, a1, a2, hlt, hr, hc, wrap64, Nat.mul_one]
          refine ih (a, j + 1, cur) _ ⟨i1, by simp only; omega, by simp only; omega, ?_, hdr⟩ (by simp only; omega) (by simp (config := { maxSteps := 4000000 }) (disch := first | (intros; contradiction) | omega) only [go_sem, k1, k2, a1, a2] <;> rfl)
          simp only
          rw [htk, List.filter_append, i4]
          simp [hpy]
        | false =>
          rw [hpy] at hc
          have hlt2 : (a : Int) < (l.length : Int) := by omega
          have hle : a + 1 ≤ (cur.map avI).length := by omega
          simp (config := { maxSteps := 4000000 }) (disch := first | (intros; contradiction) | omega) only [go_sem, k1, k2, a1, a2, hlt, hlt2, hle, hr, hc, wrap64, Nat.mul_one]
          have hal : a < cur.length := by omega
          rw [set_av hal]
          refine ih (a + 1, j + 1, cur.set a y) _ ⟨by simp [i1], by simp only; omega, by simp only; omega, ?_, ?_⟩ (by simp only; omega) (by simp (config := { maxSteps := 4000000 }) (disch := first | (intros; contradiction) | omega) only [go_sem, k1, k2, a1, a2] <;> rfl)
          · simp only
            rw [htk, List.filter_append, ← i4, List.take_succ_eq_append_getElem (by simpa using hal), take_set_same]
            simp [hpy]
          · simp only
            rw [List.drop_set_of_lt (by omega)]
            exact hdr
      · have hlt : ¬ (j : Int) < (l.length : Int) := by omega
        have hjl : j = l.length := by omega
        subst hjl
        rw [List.take_length] at i4
        rw [← i4]
        have hA : (cur.take a).length = a := by simp; omega
        have c1 : 0 ≤ (a : Int) := by omega
        have c2 : (a : Int) ≤ (l.length : Int) := by omega
        have c3 : ¬ l.length - a = 0 := by omega
        have c4 : a + (l.length - a) ≤ (cur.map avI).length := by omega
        simp (config := { maxSteps := 4000000 }) (disch := first | (intros; contradiction) | omega) only [go_sem, k1, k2, a1, a2, hlt, c1, c2, c3, c4, Nat.mul_one]
        rw [give_cut _ _ (by omega)]
        have hch2 := chunk_ints (cur.take a)
        rw [hA] at hch2
        simp (config := { maxSteps := 4000000 }) (disch := first | (intros; contradiction) | omega) only [go_sem, k1, k2, a1, a2, hch2]
end Go.Proofs.Ytchedkjlhjfadaa
namespace Go.Proofs.Ytchedkjlhjfadaa
open Go Go.Ab
variable {ext : Sem'}
/-- Of numbers that stand side by side, one of each. -/
def dd : List Int → List Int
  | [] => []
  | [x] => [x]
  | x :: y :: l => if x = y then dd (y :: l) else x :: dd (y :: l)
theorem dd_snoc : ∀ (l : List Int) (x y : Int), dd (l ++ [x] ++ [y]) = if x = y then dd (l ++ [x]) else dd (l ++ [x]) ++ [y]
  | [], x, y => by simp only [List.nil_append, List.cons_append, dd]; split <;> simp [*]
  | [a], x, y => by
    simp only [List.cons_append, List.nil_append, dd]
    split <;> split <;> simp [*]
  | a :: b :: l, x, y => by
    have h := dd_snoc (b :: l) x y
    simp only [List.cons_append, dd] at h ⊢
    rw [h]
    split <;> split <;> simp [*]
theorem dd_next {l : List Int} {k : Nat} {x y : Int} (hk : 0 < k) (hx : l[k - 1]? = some x) (hy : l[k]? = some y) : dd (l.take (k + 1)) = if x = y then dd (l.take k) else dd (l.take k) ++ [y] := by
  obtain ⟨n, rfl⟩ : ∃ n, k = n + 1 := ⟨k - 1, by omega⟩
  have h1 := (List.getElem?_eq_some_iff.1 hx).1
  have h2 := (List.getElem?_eq_some_iff.1 hy).1
  simp only [Nat.add_sub_cancel] at hx h1
  have e1 : l.take (n + 1) = l.take n ++ [x] := by
    rw [List.take_succ_eq_append_getElem h1]
    rw [List.getElem?_eq_getElem h1] at hx
    simp only [Option.some.injEq] at hx
    rw [hx]
  have e2 : l.take (n + 1 + 1) = l.take (n + 1) ++ [y] := by
    rw [List.take_succ_eq_append_getElem h2]
    rw [List.getElem?_eq_getElem h2] at hy
    simp only [Option.some.injEq] at hy
    rw [hy]
  rw [e2, e1, dd_snoc]
set_option maxHeartbeats 2000000 in
theorem compact0_e (hx : TX ext) : G ext 107 [.d (.sl [])] [] = some (.ret (.d (.sl [])), []) := by
  rw [G_body hx.clear rfl Try.func107 rfl Try.results107 hv_107 rfl]
  simp (config := { maxSteps := 4000000 }) (disch := first | (intros; contradiction) | omega) only [go_sem]
set_option maxHeartbeats 4000000 in
theorem compact1_e (hx : TX ext) (l : List Int) (hl : l.length ≤ 1000000) : G ext 107 [.own 0 0 l.length 1] [.cells (l.map avI)] = some (.ret (.d (.sl ((dd l).map rowI))), [.no]) := by
  have hll : (l.map avI).length = l.length := List.length_map _
  have a1 := fun l => av_refs l
  have a2 := fun l f => av_ren f l
  have hch := chunk_ints
  have hg := give_first l []
  rw [List.append_nil] at hg
  rw [G_body hx.clear rfl Try.func107 rfl Try.results107 hv_107 rfl]
  by_cases h2 : (l.length : Int) < 2
  · have hd : dd l = l := by
      match l, h2 with
      | [], _ => rfl
      | [x], _ => rfl
      | _ :: _ :: _, h => simp at h; omega
    rw [hd]
    simp (config := { maxSteps := 4000000 }) (disch := first | (intros; contradiction) | omega) only [go_sem, a1, a2, h2, hg, hch, Nat.mul_one]
  · simp (config := { maxSteps := 4000000 }) (disch := first | (intros; contradiction) | omega) only [go_sem, a1, a2, h2, Nat.mul_one]
    generalize hL : loopA _ _ _ = L
    apply loop_upd hL (by simp (config := { maxSteps := 4000000 }) (disch := first | (intros; contradiction) | omega) only [go_sem, a1, a2] <;> rfl) (fun k : Nat => 0 < k ∧ k ≤ l.length ∧ dd (l.take k) = l.take k) (fun k => l.length - k)
      (fun k => [(3, .d (.int .i64 k)), (4, .any), (5, .any)]) (fun _ => []) 1 (by simp (config := { maxSteps := 4000000 }) (disch := first | (intros; contradiction) | omega) only [go_sem, a1, a2] <;> rfl) ⟨by decide, by omega, ?_⟩ ?_
    · cases l with
      | nil => rfl
      | cons x l => rfl
    · rintro k ⟨k1, k2, k3⟩ next ih
      clear hL
      by_cases hk : k < l.length
      · have hlt : (k : Int) < (l.length : Int) := by omega
        have hk0 : k - 1 < l.length := by omega
        have hr1 : (l.map avI)[k]? = some (.d (.int .i64 l[k])) := by rw [map_at hk]; rfl
        have hr0 : (l.map avI)[k - 1]? = some (.d (.int .i64 l[k - 1])) := by rw [map_at hk0]; rfl
        have hn := dd_next k1 (List.getElem?_eq_getElem hk0) (List.getElem?_eq_getElem hk)
        have c0 : 0 ≤ (k : Int) - 1 := by omega
        have c1 : (k : Int) - 1 < (l.length : Int) := by omega
        have c2 : ((k : Int) - 1).toNat = k - 1 := by omega
        have htk := List.take_succ_eq_append_getElem hk
        generalize l[k] = y at hr1 hn htk
        generalize l[k - 1] = x at hr0 hn
        by_cases hxy : y = x
        · subst hxy
          rw [if_pos rfl] at hn
          have c3 : (k : Int) ≤ (l.length : Int) := by omega
          simp (config := { maxSteps := 4000000 }) (disch := first | (intros; contradiction) | omega) only [go_sem, a1, a2, hlt, c0, c1, c2, c3, hr1, hr0, wrap64, Nat.mul_one]
          generalize hL : loopA _ _ _ = L
          apply loop_upd hL (by simp (config := { maxSteps := 4000000 }) (disch := first | (intros; contradiction) | omega) only [go_sem, a1, a2] <;> rfl) (fun s : Nat × Nat × List Int => s.2.2.length = l.length ∧ k ≤ s.1 ∧ s.1 + 1 ≤ k + s.2.1 ∧ k + s.2.1 ≤ l.length ∧ 0 < s.2.1 ∧ s.2.2.take s.1 = dd (l.take (k + s.2.1)) ∧ s.2.2.drop (k + s.2.1 - 1) = l.drop (k + s.2.1 - 1)) (fun s => l.length - s.2.1)
            (fun s => [(3, .d (.int .i64 s.1)), (5, .d (.int .i64 s.2.1))]) (fun s => [(0, .cells (s.2.2.map avI))]) (k, 1, l) (by simp (config := { maxSteps := 4000000 }) (disch := first | (intros; contradiction) | omega) only [go_sem, a1, a2] <;> rfl) ⟨rfl, Nat.le_refl _, Nat.le_refl _, hk, Nat.one_pos, by simp only; rw [hn, k3], rfl⟩ ?_
          rintro ⟨a, j, cur⟩ ⟨i1, i2, i3, i4, i5, i6, i7⟩ next2 ih2
          clear hL
          simp only at i1 i2 i3 i4 i5 i6 i7 ih2 ⊢
          have hcl : (cur.map avI).length = l.length := by simp [i1]
          by_cases hj : k + j < l.length
          · have hlt2 : (j : Int) < ((l.length - k : Nat) : Int) := by omega
            have hj0 : k + j - 1 < l.length := by omega
            have hcj0 : cur[k + j - 1]? = some l[k + j - 1] := by
              have := congrArg (fun m => m[0]?) i7
              simpa [List.getElem?_eq_getElem hj0] using this
            have hcj : cur[k + j]? = some l[k + j] := by
              have := congrArg (fun m => m[1]?) i7
              rw [List.getElem?_drop, List.getElem?_drop, show k + j - 1 + 1 = k + j by omega, List.getElem?_eq_getElem hj] at this
              exact this
            have hs1 : (cur.map avI)[k + j]? = some (.d (.int .i64 l[k + j])) := by rw [List.getElem?_map, hcj]; rfl
            have hs0 : (cur.map avI)[k + (j - 1)]? = some (.d (.int .i64 l[k + j - 1])) := by rw [show k + (j - 1) = k + j - 1 by omega, List.getElem?_map, hcj0]; rfl
            have hn2 := dd_next (show 0 < k + j by omega) (List.getElem?_eq_getElem hj0) (List.getElem?_eq_getElem hj)
            have hdr : cur.drop (k + j) = l.drop (k + j) := by
              have := congrArg (List.drop 1) i7
              simp only [List.drop_drop] at this
              rwa [show k + j - 1 + 1 = k + j by omega] at this
            generalize l[k + j] = u at hs1 hn2
            generalize l[k + j - 1] = v at hs0 hn2
            have d0 : 0 ≤ (j : Int) - 1 := by omega
            have d1 : (j : Int) - 1 < ((l.length - k : Nat) : Int) := by omega
            have d2 : ((j : Int) - 1).toNat = j - 1 := by omega
            by_cases huv : u = v
            · subst huv
              rw [if_pos rfl] at hn2
              simp (config := { maxSteps := 4000000 }) (disch := first | (intros; contradiction) | omega) only [go_sem, a1, a2, hlt2, d0, d1, d2, hs1, hs0, wrap64, Nat.mul_one]
              exact ih2 (a, j + 1, cur) _ ⟨i1, i2, by simp only; omega, by simp only; omega, by simp only; omega, by simp only; rw [i6, ← hn2]; rfl, by simp only; exact hdr⟩ (by simp only; omega) (by simp (config := { maxSteps := 4000000 }) (disch := first | (intros; contradiction) | omega) only [go_sem, a1, a2] <;> rfl)
            · rw [if_neg (fun h => huv h.symm)] at hn2
              have e1 : (a : Int) < (l.length : Int) := by omega
              have e2 : a + 1 ≤ (cur.map avI).length := by omega
              have e3 : a < cur.length := by omega
              simp (config := { maxSteps := 4000000 }) (disch := first | (intros; contradiction) | omega) only [go_sem, a1, a2, hlt2, d0, d1, d2, hs1, hs0, huv, e1, e2, wrap64, Nat.mul_one]
              rw [set_av e3]
              refine ih2 (a + 1, j + 1, cur.set a u) _ ⟨by simp [i1], by simp only; omega, by simp only; omega, by simp only; omega, by simp only; omega, ?_, ?_⟩ (by simp only; omega) (by simp (config := { maxSteps := 4000000 }) (disch := first | (intros; contradiction) | omega) only [go_sem, a1, a2] <;> rfl)
              · simp only
                rw [List.take_succ_eq_append_getElem (by simpa using e3), take_set_same, i6, show k + (j + 1) = k + j + 1 by omega, hn2]
                simp
              · simp only
                rw [show k + (j + 1) - 1 = k + j by omega, List.drop_set_of_lt (by omega)]
                exact hdr
          · have hlt2 : ¬ (j : Int) < ((l.length - k : Nat) : Int) := by omega
            have hjl : k + j = l.length := by omega
            rw [hjl, List.take_length] at i6
            rw [← i6]
            have hA : (cur.take a).length = a := by simp; omega
            have f1 : 0 ≤ (a : Int) := by omega
            have f2 : (a : Int) ≤ (l.length : Int) := by omega
            have f3 : ¬ l.length - a = 0 := by omega
            have f4 : a + (l.length - a) ≤ (cur.map avI).length := by omega
            simp (config := { maxSteps := 4000000 }) (disch := first | (intros; contradiction) | omega) only [go_sem, a1, a2, hlt2, f1, f2, f3, f4, Nat.mul_one]
            rw [give_cut _ _ (by omega)]
            have hch2 := chunk_ints (cur.take a)
            rw [hA] at hch2
            simp (config := { maxSteps := 4000000 }) (disch := first | (intros; contradiction) | omega) only [go_sem, a1, a2, hch2]
        · rw [if_neg (fun h => hxy h.symm), k3] at hn
          simp (config := { maxSteps := 4000000 }) (disch := first | (intros; contradiction) | omega) only [go_sem, a1, a2, hlt, c0, c1, c2, hr1, hr0, hxy, wrap64, Nat.mul_one]
          exact ih (k + 1) _ ⟨by omega, hk, by rw [hn, htk]⟩ (by omega) (by simp (config := { maxSteps := 4000000 }) (disch := first | (intros; contradiction) | omega) only [go_sem, a1, a2] <;> rfl)
      · have hlt : ¬ (k : Int) < (l.length : Int) := by omega
        have : k = l.length := by omega
        subst this
        rw [List.take_length] at k3
        rw [k3]
        simp (config := { maxSteps := 4000000 }) (disch := first | (intros; contradiction) | omega) only [go_sem, a1, a2, hlt, hg, hch, Nat.mul_one]
end Go.Proofs.Ytchedkjlhjfadaa
namespace Go.Proofs.Ytchedkjlhjfadaa
open Go Go.Ab
variable {ext : Sem'}
theorem len_ins (x : Int) : ∀ l, (insI x l).length = l.length + 1
  | [] => rfl
  | y :: l => by simp only [insI]; split <;> simp [len_ins x l]
theorem len_sort : ∀ l, (sortL l).length = l.length
  | [] => rfl
  | x :: l => by simp only [sortL, len_ins, len_sort l, List.length_cons]
theorem len_dd : ∀ l : List Int, (dd l).length ≤ l.length
  | [] => Nat.le_refl _
  | [x] => Nat.le_refl _
  | x :: y :: l => by
    have := len_dd (y :: l)
    simp only [dd]
    split <;> simp only [List.length_cons] at * <;> omega
/-- Does no one stand beside its opposite? -/
def cleanL : List Int → Bool
  | x :: y :: l => !decide (y = IntKind.wrap .i64 (0 - x)) && cleanL (y :: l)
  | _ => true
def normL (c : List Int) : List Int := dd (sortL c)
theorem clean_at : ∀ {l : List Int} {k : Nat} {x y : Int}, l[k]? = some x → l[k + 1]? = some y → cleanL (l.drop k) = (!decide (y = IntKind.wrap .i64 (0 - x)) && cleanL (l.drop (k + 1))) := by
  intro l k x y hx hy
  have h1 := (List.getElem?_eq_some_iff.1 hx).1
  have h2 := (List.getElem?_eq_some_iff.1 hy).1
  rw [List.drop_eq_getElem_cons h1, List.drop_eq_getElem_cons h2]
  rw [List.getElem?_eq_getElem h1] at hx
  rw [List.getElem?_eq_getElem h2] at hy
  cases hx; cases hy
  rfl
set_option maxHeartbeats 4000000 in
theorem norm_e (hx : TX ext) (c : List Int) (hl : c.length ≤ 1000000) : G ext 104 [.d (.sl (c.map rowI))] [] = some (.ret (.tuple [.d (.sl ((normL c).map rowI)), .d (.bool (cleanL (normL c)))]), []) := by
  have a1 := fun l => av_refs l
  have a2 := fun l f => av_ren f l
  rw [G_body hx.clear rfl Try.func104 rfl Try.results104 hv_104 rfl]
  by_cases h0 : c = []
  · subst h0
    have e0 := G_ext hx.clone0
    have e1 := G_ext hx.sort0
    have e2 := compact0_e hx
    simp only [List.map_nil]
    rw [show normL [] = [] from rfl, show cleanL [] = true from rfl]
    simp (config := { maxSteps := 4000000 }) (disch := first | (intros; contradiction) | omega) only [go_sem, e0, e1, e2]
    rw [loopA_eq]
    simp (config := { maxSteps := 4000000 }) (disch := first | (intros; contradiction) | omega) only [go_sem, List.map_nil]
  · have hs := len_sort c
    have hdl := len_dd (sortL c)
    have e0 := G_ext (hx.clone1 c h0 hl)
    have e1 := G_ext (hx.sort1 c h0 hl)
    have e2 := compact1_e hx (sortL c) (by omega)
    rw [hs] at e2
    simp (config := { maxSteps := 4000000 }) (disch := first | (intros; contradiction) | omega) only [go_sem, a1, a2, e0, e1, e2]
    have hol : (normL c).length ≤ 1000000 := by unfold normL; omega
    change _ at hol
    rw [show dd (sortL c) = normL c from rfl]
    generalize normL c = o at hol
    have hoo : (o.map rowI).length = o.length := List.length_map _
    generalize hL : loopA _ _ _ = L
    apply range_upd hL (by simp (config := { maxSteps := 4000000 }) (disch := first | (intros; contradiction) | omega) only [go_sem, a1, a2] <;> rfl) o rowI (α := Unit) (fun rest k _ => cleanL o = cleanL (o.drop (k - 1))) (fun k _ => [(5, .any), (14, .d (.int .i64 k))]) (fun _ _ => []) () (by simp (config := { maxSteps := 4000000 }) (disch := first | (intros; contradiction) | omega) only [go_sem, a1, a2] <;> rfl) rfl ?_ ?_
    · rintro x rest k _ i1 hlt hr hget hk _ next ih
      clear hL
      simp only [rowI] at hr
      by_cases k0 : k = 0
      · have g0 : ¬ (0 : Int) < (k : Int) := by omega
        simp (config := { maxSteps := 4000000 }) (disch := first | (intros; contradiction) | omega) only [go_sem, hlt, hr, g0, wrap64]
        exact ih () _ (by rw [k0]; rfl) (by simp (config := { maxSteps := 4000000 }) (disch := first | (intros; contradiction) | omega) only [go_sem, a1, a2] <;> rfl)
      · have g0 : (0 : Int) < (k : Int) := by omega
        have hk1 : k - 1 < o.length := by omega
        have hr1 : (o.map rowI)[k - 1]? = some [.int .i64 o[k - 1]] := by rw [map_at hk1]; rfl
        have hcl := clean_at (List.getElem?_eq_getElem hk1) (show o[k - 1 + 1]? = some x by rw [show k - 1 + 1 = k by omega]; exact hget)
        have g1 : 0 ≤ (k : Int) - 1 := by omega
        have g2 : ((k : Int) - 1).toNat = k - 1 := by omega
        generalize o[k - 1] = y at hr1 hcl
        rw [hcl, show k - 1 + 1 = k by omega] at i1
        by_cases hxy : x = IntKind.wrap .i64 (0 - y)
        · rw [decide_eq_true hxy] at i1
          rw [i1]
          have hxy := eq_true hxy
          simp (config := { maxSteps := 4000000 }) (disch := first | (intros; contradiction) | omega) only [go_sem, hlt, hr, g0, g1, g2, hr1, hxy, wrap64]
        · rw [decide_eq_false hxy] at i1
          simp (config := { maxSteps := 4000000 }) (disch := first | (intros; contradiction) | omega) only [go_sem, hlt, hr, g0, g1, g2, hr1, hxy, wrap64]
          exact ih () _ (by rw [i1]; simp) (by simp (config := { maxSteps := 4000000 }) (disch := first | (intros; contradiction) | omega) only [go_sem, a1, a2] <;> rfl)
    · rintro k _ i1 hlt hk next
      clear hL
      have i1 : cleanL o = true := by
        rw [i1]
        rcases Nat.eq_zero_or_pos k with h | h
        · rw [List.length_eq_zero_iff.1 (show o.length = 0 by omega), List.drop_nil]; rfl
        · rw [List.drop_eq_getElem_cons (show k - 1 < o.length by omega), show k - 1 + 1 = k by omega, List.drop_eq_nil_of_le (by omega)]; rfl
      rw [i1]
      simp (config := { maxSteps := 4000000 }) (disch := first | (intros; contradiction) | omega) only [go_sem, hlt]
end Go.Proofs.Ytchedkjlhjfadaa
namespace Go.Proofs.Ytchedkjlhjfadaa
open Go Go.Ab
variable {ext : Sem'}
theorem literal_e (hx : T0 ext) (n x : Int) : G ext 85 [.d (.int .i64 n), .d (.int .i64 x)] [] = some (.ret (.d (.bool (litP n x))), []) := by
  rw [G_body hx.clear rfl Try.func85 rfl Try.results85 hv_85 rfl]
  unfold litP
  by_cases h1 : x = 0
  · simp (config := { maxSteps := 4000000 }) (disch := first | (intros; contradiction) | omega) only [go_sem, h1] <;> rfl
  · by_cases h2 : x ≤ n
    · by_cases h3 : IntKind.wrap .i64 (0 - n) ≤ x
      · simp (config := { maxSteps := 4000000 }) (disch := first | (intros; contradiction) | omega) only [go_sem, h1, h2, h3, ne_eq, not_false_eq_true]
      · simp (config := { maxSteps := 4000000 }) (disch := first | (intros; contradiction) | omega) only [go_sem, h1, h2, h3, ne_eq, not_false_eq_true]
    · simp (config := { maxSteps := 4000000 }) (disch := first | (intros; contradiction) | omega) only [go_sem, h1, h2, ne_eq, not_false_eq_true]
theorem rlit_e (hx : TX ext) (n x : Int) : G ext 44 [.d (.int .i64 n), .d (.int .i64 x)] [] = some (.ret (.d (.bool (litP n x))), []) := by
  rw [G_body hx.clear rfl Try.func44 rfl Try.results44 hv_44 rfl]
  unfold litP
  by_cases h1 : x = 0
  · simp (config := { maxSteps := 4000000 }) (disch := first | (intros; contradiction) | omega) only [go_sem, h1] <;> rfl
  · by_cases h2 : x ≤ n
    · by_cases h3 : IntKind.wrap .i64 (0 - n) ≤ x
      · simp (config := { maxSteps := 4000000 }) (disch := first | (intros; contradiction) | omega) only [go_sem, h1, h2, h3, ne_eq, not_false_eq_true]
      · simp (config := { maxSteps := 4000000 }) (disch := first | (intros; contradiction) | omega) only [go_sem, h1, h2, h3, ne_eq, not_false_eq_true]
    · simp (config := { maxSteps := 4000000 }) (disch := first | (intros; contradiction) | omega) only [go_sem, h1, h2, ne_eq, not_false_eq_true]
theorem all1_e (hx : T0 ext) (n x : Int) : G ext 84 [.d (.int .i64 x), .ptr 0 0] [.cells [.d (.int .i64 n)]] = some (.ret (.d (.bool (!litP n x))), [.cells [.d (.int .i64 n)]]) := by
  have h := literal_e hx n x
  rw [G_body hx.clear rfl Try.func84 rfl Try.results84 hv_84 rfl]
  simp (config := { maxSteps := 4000000 }) (disch := first | (intros; contradiction) | omega) only [go_sem, h]
theorem contains1_e (hx : T0 ext) (F : Nat) (p : Int → Bool) (cs : List AV) (k1 : (cs.map refs).flatten = []) (k2 : ∀ f, cs.map (ren f) = cs) (l : List Int) (hl : l.length ≤ 1000000) (hp : ∀ x, x ∈ l → G ext F [.d (.int .i64 x), .ptr 0 0] [.cells cs] = some (.ret (.d (.bool (p x))), [.cells cs])) :
    G ext 83 [.d (.sl (l.map rowI)), .fn F [] [.ptr 0 0]] [.cells cs] = some (.ret (.d (.bool (l.any p))), [.cells cs]) := by
  have hi := index1_e hx F p cs k1 k2 l hl hp
  rw [← idxN_any]
  rw [G_body hx.clear rfl Try.func83 rfl Try.results83 hv_83 rfl]
  simp (config := { maxSteps := 4000000 }) (disch := first | (intros; contradiction) | omega) only [go_sem, k1, k2, hi]
theorem any_not {α : Type} (p : α → Bool) (l : List α) : (l.any fun x => !p x) = !l.all p := by rw [List.any_eq_not_all_not]; simp
theorem all_e (hx : T0 ext) (n : Int) (c : List Int) (hl : c.length ≤ 1000000) : G ext 62 [.d (.int .i64 n), .d (.sl (c.map rowI))] [] = some (.ret (.d (.bool (allP n c))), []) := by
  have h := contains1_e hx 84 (fun x => !litP n x) [.d (.int .i64 n)] rfl (fun _ => rfl) c hl (fun x _ => all1_e hx n x)
  rw [any_not] at h
  rw [G_body hx.clear rfl Try.func62 rfl Try.results62 hv_62 rfl]
  unfold allP
  simp (config := { maxSteps := 4000000 }) (disch := first | (intros; contradiction) | omega) only [go_sem, h, Bool.not_not]
theorem right1_e (hx : TX ext) (f : Fm) (c : List Int) (hl : c.length ≤ 1000000) : G ext 61 [.d (.sl (c.map rowI)), .ptr 0 0] [.cells [.d (.int .i64 f.n), .d (.sl (f.l.map rowC))]] = some (.ret (.d (.bool (!allP f.n c))), [.cells [.d (.int .i64 f.n), .d (.sl (f.l.map rowC))]]) := by
  have h := all_e hx.toT0 f.n c hl
  rw [G_body hx.clear rfl Try.func61 rfl Try.results61 hv_61 rfl]
  simp (config := { maxSteps := 4000000 }) (disch := first | (intros; contradiction) | omega) only [go_sem, h]
/-- slices.IndexFunc of clauses, a function with one cell. -/
theorem indexc_e (hx : TX ext) (F : Nat) (p : List Int → Bool) (cs : List AV) (k1 : (cs.map refs).flatten = []) (k2 : ∀ f, cs.map (ren f) = cs) (l : List (List Int)) (hl : l.length ≤ 1000000) (hp : ∀ x, x ∈ l → G ext F [.d (.sl (x.map rowI)), .ptr 0 0] [.cells cs] = some (.ret (.d (.bool (p x))), [.cells cs])) :
    G ext 68 [.d (.sl (l.map rowC)), .fn F [] [.ptr 0 0]] [.cells cs] = some (.ret (.d (.int .i64 (idxN p l))), [.cells cs]) := by
  have hll : (l.map rowC).length = l.length := List.length_map _
  rw [G_body hx.clear rfl Try.func68 rfl Try.results68 hv_68 rfl]
  simp (config := { maxSteps := 4000000 }) (disch := first | (intros; contradiction) | omega) only [go_sem, k1]
  generalize hL : loopA _ _ _ = L
  apply range_upd hL (by simp (config := { maxSteps := 4000000 }) (disch := first | (intros; contradiction) | omega) only [go_sem, k1, k2] <;> rfl) l rowC (α := Unit) (fun rest k _ => idxP p l = (idxP p rest).map (k + ·)) (fun k _ => [(5, .any), (8, .d (.int .i64 k))]) (fun _ _ => []) () (by simp (config := { maxSteps := 4000000 }) (disch := first | (intros; contradiction) | omega) only [go_sem, k1, k2] <;> rfl) (by simp) ?_ ?_
  · intro x rest k _ hi hlt hr hxx hk _ next ih
    clear hL
    have hc := hp x (List.mem_of_getElem? hxx)
    simp only [rowC] at hr
    simp only [idxP] at hi
    cases hpx : p x with
    | true =>
      rw [hpx] at hc hi
      have h1 : idxN p l = k := by unfold idxN; rw [hi]; simp
      rw [h1]
      simp (config := { maxSteps := 4000000 }) (disch := first | (intros; contradiction) | omega) only [go_sem, k1, k2, hlt, hr, hc]
    | false =>
      rw [hpx] at hc hi
      simp (config := { maxSteps := 4000000 }) (disch := first | (intros; contradiction) | omega) only [go_sem, k1, k2, hlt, hr, hc, wrap64]
      exact ih () _ (by rw [hi]; simp only [Bool.false_eq_true, if_false, Option.map_map]; congr 1; funext n; simp only [Function.comp]; omega) (by simp (config := { maxSteps := 4000000 }) (disch := first | (intros; contradiction) | omega) only [go_sem, k1, k2] <;> rfl)
  · intro k _ hi hlt hk next
    clear hL
    have h1 : idxN p l = -1 := by unfold idxN; rw [hi]; rfl
    rw [h1]
    simp (config := { maxSteps := 4000000 }) (disch := first | (intros; contradiction) | omega) only [go_sem, k1, hlt]
theorem containsc_e (hx : TX ext) (F : Nat) (p : List Int → Bool) (cs : List AV) (k1 : (cs.map refs).flatten = []) (k2 : ∀ f, cs.map (ren f) = cs) (l : List (List Int)) (hl : l.length ≤ 1000000) (hp : ∀ x, x ∈ l → G ext F [.d (.sl (x.map rowI)), .ptr 0 0] [.cells cs] = some (.ret (.d (.bool (p x))), [.cells cs])) :
    G ext 60 [.d (.sl (l.map rowC)), .fn F [] [.ptr 0 0]] [.cells cs] = some (.ret (.d (.bool (l.any p))), [.cells cs]) := by
  have hi := indexc_e hx F p cs k1 k2 l hl hp
  rw [← idxN_any]
  rw [G_body hx.clear rfl Try.func60 rfl Try.results60 hv_60 rfl]
  simp (config := { maxSteps := 4000000 }) (disch := first | (intros; contradiction) | omega) only [go_sem, k1, k2, hi]
def rightP (f : Fm) : Bool := !decide (f.n < 0) && (!decide (100000 < f.n) && (!decide (200000 < (f.l.length : Int)) && f.l.all (allP f.n)))
/-- A formula that is short. -/
structure Short (f : Fm) : Prop where
  l : f.l.length ≤ 1000
  c : ∀ c, c ∈ f.l → c.length ≤ 3000
set_option maxHeartbeats 1000000 in
theorem right_e (hx : TX ext) (f : Fm) (hs : Short f) : G ext 41 [f.av] [] = some (.ret (.d (.bool (rightP f))), []) := by
  have h := containsc_e hx 61 (fun c => !allP f.n c) [.d (.int .i64 f.n), .d (.sl (f.l.map rowC))] rfl (fun _ => rfl) f.l (by have := hs.l; omega) (fun c hc => right1_e hx f c (by have := hs.c c hc; omega))
  rw [any_not] at h
  have hll : (f.l.map rowC).length = f.l.length := List.length_map _
  rw [G_body hx.clear rfl Try.func41 rfl Try.results41 hv_41 rfl]
  unfold rightP
  simp only [Fm.av]
  have h3 : ¬ (200000 : Int) < (f.l.length : Int) := by have := hs.l; omega
  have h3' : ¬ (200000 : Int) < ((f.l.map rowC).length : Int) := by have := hs.l; omega
  rw [decide_eq_false h3]
  by_cases h1 : f.n < 0
  · simp (config := { maxSteps := 4000000 }) (disch := first | (intros; contradiction) | omega) only [go_sem, h1] <;> rfl
  · by_cases h2 : 100000 < f.n
    · simp (config := { maxSteps := 4000000 }) (disch := first | (intros; contradiction) | omega) only [go_sem, h1, h2] <;> rfl
    · simp (config := { maxSteps := 4000000 }) (disch := first | (intros; contradiction) | omega) only [go_sem, h1, h2, h3', h, Bool.not_not]
end Go.Proofs.Ytchedkjlhjfadaa
namespace Go.Proofs.Ytchedkjlhjfadaa
open Go Go.Ab
variable {ext : Sem'}
def rowB (b : Bool) : List Dt := [.bool b]
def absI (x : Int) : Int := if 0 < x then x else 0 - x
def trueP (m : List Bool) (x : Int) : Bool := decide ((m[(absI x - 1).toNat]?).getD false = decide (0 < x))
theorem lit_range {n x : Int} (h0 : 0 ≤ n) (h1 : n ≤ 100000) (h : litP n x = true) : x ≠ 0 ∧ x ≤ n ∧ 0 - n ≤ x := by
  unfold litP at h
  simp only [Bool.and_eq_true, decide_eq_true_eq, ne_eq] at h
  rw [wrap64 (by omega) (by omega)] at h
  exact ⟨h.1, h.2.1, h.2.2⟩
theorem true_at {n x : Int} {m : List Bool} (h0 : 0 ≤ n) (h1 : n ≤ 100000) (hm : (m.length : Int) = n) (h : litP n x = true) : 0 ≤ absI x - 1 ∧ (m.map rowB)[(absI x - 1).toNat]? = some [.bool ((m[(absI x - 1).toNat]?).getD false)] := by
  obtain ⟨k1, k2, k3⟩ := lit_range h0 h1 h
  have k4 : 1 ≤ absI x ∧ absI x ≤ n := by unfold absI; split <;> omega
  have hlt : (absI x - 1).toNat < m.length := by omega
  refine ⟨by omega, ?_⟩
  rw [map_at hlt, List.getElem?_eq_getElem hlt]
  rfl
theorem max_abs {x : Int} (h : x ≠ 0) (h1 : -1000000 ≤ x) (h2 : x ≤ 1000000) : (if x < 0 - x then 0 - x else x) = absI x := by
  unfold absI
  split <;> split <;> omega
theorem eqB_decide (a b : Bool) : decide (a = b) = (a == b) := by cases a <;> cases b <;> rfl
set_option maxHeartbeats 1000000 in
theorem eval1_e (hx : TX ext) (n x : Int) (m : List Bool) (h0 : 0 ≤ n) (h1 : n ≤ 100000) (hm : (m.length : Int) = n) (h : litP n x = true) : G ext 48 [.d (.int .i64 x), .ptr 0 0] [.cells [.d (.sl (m.map rowB))]] = some (.ret (.d (.bool (trueP m x))), [.cells [.d (.sl (m.map rowB))]]) := by
  obtain ⟨k1, k2, k3⟩ := lit_range h0 h1 h
  obtain ⟨k4, k5⟩ := true_at h0 h1 hm h
  have k6 := max_abs k1 (by omega) (by omega)
  have k7 : absI x ≤ 100000 := by unfold absI; split <;> omega
  rw [G_body hx.clear rfl Try.func48 rfl Try.results48 hv_48 rfl]
  unfold trueP
  generalize (m[(absI x - 1).toNat]?).getD false = b at k5 ⊢
  generalize absI x = y at *
  by_cases h2 : 0 < x
  · rw [decide_eq_true h2]
    cases b <;> simp (config := { maxSteps := 4000000 }) (disch := first | (intros; contradiction) | omega) only [go_sem, k6, k4, k5, h2, wrap64] <;> rfl
  · rw [decide_eq_false h2]
    cases b <;> simp (config := { maxSteps := 4000000 }) (disch := first | (intros; contradiction) | omega) only [go_sem, k6, k4, k5, h2, wrap64] <;> rfl
theorem rtrue_e (hx : TX ext) (n x : Int) (m : List Bool) (h0 : 0 ≤ n) (h1 : n ≤ 100000) (hm : (m.length : Int) = n) (h : litP n x = true) : G ext 38 [.d (.int .i64 x), .d (.sl (m.map rowB))] [] = some (.ret (.d (.bool (trueP m x))), []) := by
  obtain ⟨k1, k2, k3⟩ := lit_range h0 h1 h
  obtain ⟨k4, k5⟩ := true_at h0 h1 hm h
  rw [G_body hx.clear rfl Try.func38 rfl Try.results38 hv_38 rfl]
  unfold trueP
  generalize (m[(absI x - 1).toNat]?).getD false = b at k5 ⊢
  unfold absI at k4 k5
  by_cases h2 : 0 < x
  · rw [if_pos h2] at k4 k5
    rw [decide_eq_true h2]
    cases b <;> simp (config := { maxSteps := 4000000 }) (disch := first | (intros; contradiction) | omega) only [go_sem, k4, k5, h2, wrap64] <;> rfl
  · rw [if_neg h2] at k4 k5
    rw [decide_eq_false h2]
    cases b <;> simp (config := { maxSteps := 4000000 }) (disch := first | (intros; contradiction) | omega) only [go_sem, k4, k5, h2, wrap64] <;> rfl
def evalP (f : Fm) (m : List Bool) : Bool := rightP f && (decide ((m.length : Int) = f.n) && f.l.all fun c => c.any (trueP m))
theorem right_inv {f : Fm} (h : rightP f = true) : 0 ≤ f.n ∧ f.n ≤ 100000 ∧ ∀ c, c ∈ f.l → ∀ x, x ∈ c → litP f.n x = true := by
  unfold rightP at h
  simp only [Bool.and_eq_true, Bool.not_eq_true', decide_eq_false_iff_not] at h
  refine ⟨by omega, by omega, fun c hc x hx => ?_⟩
  exact List.all_eq_true.1 (List.all_eq_true.1 h.2.2.2 c hc) x hx
set_option maxHeartbeats 4000000 in
theorem eval_e (hx : TX ext) (f : Fm) (hs : Short f) (m : List Bool) : G ext 20 [f.av, .d (.sl (m.map rowB))] [] = some (.ret (.d (.bool (evalP f m))), []) := by
  have hr := right_e hx f hs
  have hml : (m.map rowB).length = m.length := List.length_map _
  have hll : (f.l.map rowC).length = f.l.length := List.length_map _
  have hsl := hs.l
  rw [G_body hx.clear rfl Try.func20 rfl Try.results20 hv_20 rfl]
  unfold evalP
  cases h1 : rightP f with
  | false =>
    rw [h1] at hr
    simp only [Fm.av] at hr ⊢
    simp (config := { maxSteps := 4000000 }) (disch := first | (intros; contradiction) | omega) only [go_sem, hr, Bool.false_and]
  | true =>
    rw [h1] at hr
    obtain ⟨q0, q1, q2⟩ := right_inv h1
    simp only [Fm.av] at hr ⊢
    by_cases h2 : ((m.map rowB).length : Int) = f.n
    · have hm : (m.length : Int) = f.n := by omega
      rw [decide_eq_true hm]
      have h2 := eq_true h2
      simp (config := { maxSteps := 4000000 }) (disch := first | (intros; contradiction) | omega) only [go_sem, hr, h2, Bool.true_and]
      generalize hL : loopA _ _ _ = L
      apply range_upd hL (by simp (config := { maxSteps := 4000000 }) (disch := first | (intros; contradiction) | omega) only [go_sem] <;> rfl) f.l rowC (α := Unit) (fun rest k _ => (f.l.all fun c => c.any (trueP m)) = (rest.all fun c => c.any (trueP m))) (fun k _ => [(7, .any), (9, .any), (24, .d (.int .i64 k)), (28, .any), (29, .any), (30, .any)]) (fun _ _ => []) () (by simp (config := { maxSteps := 4000000 }) (disch := first | (intros; contradiction) | omega) only [go_sem] <;> rfl) rfl ?_ ?_
      · rintro c rest k _ i1 hlt hr2 hget hk _ next ih
        clear hL
        have hmem := List.mem_of_getElem? hget
        have hcl : (c.map rowI).length = c.length := List.length_map _
        have hcs := hs.c c hmem
        simp only [rowC] at hr2
        rw [List.all_cons] at i1
        simp (config := { maxSteps := 4000000 }) (disch := first | (intros; contradiction) | omega) only [go_sem, hlt, hr2]
        generalize hL : loopA _ _ _ = L
        apply range_upd hL (by simp (config := { maxSteps := 4000000 }) (disch := first | (intros; contradiction) | omega) only [go_sem] <;> rfl) c rowI (α := Unit) (fun rest2 j _ => c.any (trueP m) = rest2.any (trueP m)) (fun j _ => [(9, .any), (30, .d (.int .i64 j))]) (fun _ _ => []) () (by simp (config := { maxSteps := 4000000 }) (disch := first | (intros; contradiction) | omega) only [go_sem] <;> rfl) rfl ?_ ?_
        · rintro x rest2 j _ j1 hlt3 hr3 hget3 hj _ next2 ih2
          clear hL
          have he := eval1_e hx f.n x m q0 q1 hm (q2 c hmem x (List.mem_of_getElem? hget3))
          simp only [rowI] at hr3
          rw [List.any_cons] at j1
          cases hb : trueP m x with
          | true =>
            rw [hb] at he j1
            rw [j1] at i1
            simp (config := { maxSteps := 4000000 }) (disch := first | (intros; contradiction) | omega) only [go_sem, hlt3, hr3, he, wrap64]
            exact ih () _ (by rw [i1]; simp) (by simp (config := { maxSteps := 4000000 }) (disch := first | (intros; contradiction) | omega) only [go_sem] <;> rfl)
          | false =>
            rw [hb] at he j1
            simp (config := { maxSteps := 4000000 }) (disch := first | (intros; contradiction) | omega) only [go_sem, hlt3, hr3, he, wrap64]
            exact ih2 () _ (by rw [j1]; simp) (by simp (config := { maxSteps := 4000000 }) (disch := first | (intros; contradiction) | omega) only [go_sem] <;> rfl)
        · rintro j _ j1 hlt3 hj next2
          clear hL
          rw [j1] at i1
          rw [i1]
          simp (config := { maxSteps := 4000000 }) (disch := first | (intros; contradiction) | omega) only [go_sem, hlt3]
      · rintro k _ i1 hlt hk next
        rw [i1]
        simp (config := { maxSteps := 4000000 }) (disch := first | (intros; contradiction) | omega) only [go_sem, hlt]
    · have hm : ¬ (m.length : Int) = f.n := by omega
      rw [decide_eq_false hm]
      simp (config := { maxSteps := 4000000 }) (disch := first | (intros; contradiction) | omega) only [go_sem, hr, h2, ne_eq, not_false_eq_true, Bool.false_and, Bool.and_false]
end Go.Proofs.Ytchedkjlhjfadaa
