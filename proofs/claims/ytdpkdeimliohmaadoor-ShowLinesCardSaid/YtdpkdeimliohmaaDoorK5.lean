/- Statements as lines: plain; what is handed to one who listens. Conditions: none. -/
import Derived.Test.YtdpkdeimliohmaaDoorK2
set_option linter.unusedSimpArgs false
set_option linter.unusedVariables false
namespace Go.Proofs.YtdpkdeimliohmaaDoor
open Go Go.Ab
variable {ext : Sem'}
/-- Ahead of a line. -/
def padP (n : Nat) : Str := List.replicate (2 * n) 32
theorem padP_succ (n : Nat) : padP (n + 1) = padP n ++ [32, 32] := by
  unfold padP
  rw [show 2 * (n + 1) = 2 * n + 2 by omega, ← List.replicate_append_replicate]
  rfl
theorem padP_len (n : Nat) : (padP n).length = 2 * n := by simp [padP]
theorem rep_pad : ∀ n : Nat, Lib.repeatL [32, 32] n = padP n
  | 0 => rfl
  | n + 1 => by
    have h : padP (n + 1) = [32, 32] ++ padP n := by
      unfold padP
      rw [show 2 * (n + 1) = 2 + 2 * n by omega, ← List.replicate_append_replicate]
      rfl
    rw [h, Lib.repeatL, rep_pad n]
def linK (n : Nat) (k : Int) (t : Tp) (nm : Str) (es : List Str) (bl ll : List Str) (els : Bool) : List Str :=
  if k = 1 then [padP n ++ typT t ++ [32] ++ nm ++ [32, 61, 32] ++ es.getD 0 [] ++ [59]]
  else if k = 2 then [padP n ++ nm ++ [32, 61, 32] ++ es.getD 0 [] ++ [59]]
  else if k = 3 then [padP n ++ es.getD 0 [] ++ [45, 62] ++ nm ++ [32, 61, 32] ++ es.getD 1 [] ++ [59]]
  else if k = 4 then [padP n ++ [105, 102, 32, 40] ++ es.getD 0 [] ++ [41, 32, 123]] ++ bl ++ (if els then [padP n ++ [125, 32, 101, 108, 115, 101, 32, 123]] ++ ll else []) ++ [padP n ++ [125]]
  else if k = 5 then [padP n ++ [119, 104, 105, 108, 101, 32, 40] ++ es.getD 0 [] ++ [41, 32, 123]] ++ bl ++ [padP n ++ [125]]
  else if k = 6 then [padP n ++ [98, 114, 101, 97, 107, 59]]
  else if k = 7 then [padP n ++ [99, 111, 110, 116, 105, 110, 117, 101, 59]]
  else if k = 8 then [padP n ++ [114, 101, 116, 117, 114, 110, 32] ++ es.getD 0 [] ++ [59]]
  else if k = 9 then [padP n ++ [102, 114, 101, 101, 40] ++ nm ++ [41, 59]]
  else if k = 10 then [padP n ++ [112, 117, 116, 40] ++ es.getD 0 [] ++ [41, 59]]
  else [padP n ++ es.getD 0 [] ++ [59]]
mutual
/-- A statement's lines. -/
def linS (n : Nat) : St0 → List Str
  | .mk k t nm e b l _ => linK n k t nm (e.map showE) (linL (n + 1) b) (linL (n + 1) l) (decide (0 < l.length))
def linL (n : Nat) : List St0 → List Str
  | [] => []
  | s :: r => linS n s ++ linL n r
end
theorem linS_eq (n : Nat) (s : St0) : linS n s = linK n s.kind s.t s.name (s.e.map showE) (linL (n + 1) s.body) (linL (n + 1) s.els) (decide (0 < s.els.length)) := by cases s; rfl
theorem linL_append (n : Nat) : ∀ a b : List St0, linL n (a ++ b) = linL n a ++ linL n b
  | [], b => rfl
  | s :: a, b => by simp only [List.cons_append, linL]; rw [linL_append n a b, List.append_assoc]
/-- Lines as one text. -/
def txtL (ls : List Str) : Str := (ls.map fun x => x ++ [10]).flatten
theorem txtL_append (a b : List Str) : txtL (a ++ b) = txtL a ++ txtL b := by simp [txtL]
theorem txtL_one (x : Str) : txtL [x] = x ++ [10] := by simp [txtL]
theorem txtL_nil : txtL [] = [] := rfl
/-- How long it all may be. -/
def lenL (ls : List Str) : Nat := (txtL ls).length
theorem lenL_append (a b : List Str) : lenL (a ++ b) = lenL a + lenL b := by unfold lenL; rw [txtL_append, List.length_append]
theorem lenL_one (x : Str) : lenL [x] = x.length + 1 := by unfold lenL; rw [txtL_one, List.length_append]; rfl
theorem e_len {s : St0} (ho : okS s) (i : Nat) : ((s.e.map showE).getD i []).length ≤ 7000 * cntEs s.e := by
  rw [okS_eq] at ho
  rw [List.getD_eq_getElem?_getD, List.getElem?_map]
  cases h : s.e[i]? with
  | none => simp
  | some x =>
    have hm := List.mem_of_getElem? h
    have := showE_len (cntE x) x (Nat.le_refl _) (okEs_mem ho.2.2.1 hm)
    have := cntEs_mem hm
    simp only [Option.map_some, Option.getD_some]
    omega
theorem typ_len {t : Tp} (h : okT t.to) : (typT t).length ≤ 3003 := by
  replace h := h.1
  unfold typT
  split
  · simp; omega
  · simp
theorem lenL_cons (x : Str) (l : List Str) : lenL (x :: l) = x.length + 1 + lenL l := by
  rw [show x :: l = [x] ++ l from rfl, lenL_append, lenL_one]
theorem lenL_nil : lenL [] = 0 := rfl
set_option maxHeartbeats 1000000 in
theorem linK_len {n B c : Nat} {k : Int} {t : Tp} {nm : Str} {es bl ll : List Str} {els : Bool} (hn : n ≤ B) (ht : (typT t).length ≤ 3003) (h2 : nm.length ≤ 3000) (e0 : (es.getD 0 []).length ≤ 7000 * c) (e1 : (es.getD 1 []).length ≤ 7000 * c) :
    lenL (linK n k t nm es bl ll els) ≤ 20000 + 6 * B + 20000 * c + lenL bl + lenL ll := by
  unfold linK
  generalize es.getD 0 [] = x0 at *
  generalize es.getD 1 [] = x1 at *
  have hp := padP_len n
  generalize padP n = p at *
  generalize typT t = tt at *
  have hz := lenL_nil
  split
  · simp only [lenL_one, List.length_append, List.length_cons, List.length_nil]; omega
  split
  · simp only [lenL_one, List.length_append, List.length_cons, List.length_nil]; omega
  split
  · simp only [lenL_one, List.length_append, List.length_cons, List.length_nil]; omega
  split
  · split
    · simp only [lenL_append, lenL_one, List.length_append, List.length_cons, List.length_nil]; omega
    · simp only [lenL_append, lenL_one, hz, List.length_append, List.length_cons, List.length_nil]; omega
  split
  · simp only [lenL_append, lenL_one, List.length_append, List.length_cons, List.length_nil]; omega
  split
  · simp only [lenL_one, List.length_append, List.length_cons, List.length_nil]; omega
  split
  · simp only [lenL_one, List.length_append, List.length_cons, List.length_nil]; omega
  split
  · simp only [lenL_one, List.length_append, List.length_cons, List.length_nil]; omega
  split
  · simp only [lenL_one, List.length_append, List.length_cons, List.length_nil]; omega
  split
  · simp only [lenL_one, List.length_append, List.length_cons, List.length_nil]; omega
  · simp only [lenL_one, List.length_append, List.length_cons, List.length_nil]; omega
mutual
theorem linS_len (B K : Nat) (hK : K = 20000 + 6 * B) : ∀ (n : Nat) (s : St0), n + sizS s ≤ B → okS s → lenL (linS n s) ≤ K * sizS s
  | n, .mk k t nm e b l p, h, ho => by
    have e0 := e_len ho 0
    have e1 := e_len ho 1
    obtain ⟨⟨h1, h2⟩, h3, h4, h5, h6, h7⟩ := ho
    have h' : n + (1 + cntEs e + sizL b + sizL l) ≤ B := h
    have hb := linL_len B K hK (n + 1) b (by omega) h6
    have hl := linL_len B K hK (n + 1) l (by omega) h7
    have hk := linK_len (n := n) (B := B) (c := cntEs e) (k := k) (t := t) (nm := nm) (es := e.map showE) (bl := linL (n + 1) b) (ll := linL (n + 1) l) (els := decide (0 < l.length)) (by omega) (typ_len h1) h2.1 e0 e1
    have hKc : 20000 * cntEs e ≤ K * cntEs e := Nat.mul_le_mul_right _ (by omega)
    show lenL (linK n k t nm (e.map showE) (linL (n + 1) b) (linL (n + 1) l) (decide (0 < l.length))) ≤ K * (1 + cntEs e + sizL b + sizL l)
    rw [Nat.mul_add, Nat.mul_add, Nat.mul_add, Nat.mul_one]
    omega
theorem linL_len (B K : Nat) (hK : K = 20000 + 6 * B) : ∀ (n : Nat) (l : List St0), n + sizL l ≤ B → okSs l → lenL (linL n l) ≤ K * sizL l
  | n, [], _, _ => by simp only [linL, lenL_nil]; omega
  | n, s :: l, h, ho => by
    simp only [sizL] at h ⊢
    have h1 := linS_len B K hK n s (by omega) ho.1
    have h2 := linL_len B K hK n l (by omega) ho.2
    simp only [linL, lenL_append, Nat.mul_add]
    omega
end
end Go.Proofs.YtdpkdeimliohmaaDoor
