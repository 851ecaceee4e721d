/- Expressions as text: the program's, and the document's. Conditions: none. -/
import Derived.Test.YtdpkdeimliohmaaDoorK1
set_option linter.unusedSimpArgs false
set_option linter.unusedVariables false
namespace Go.Proofs.YtdpkdeimliohmaaDoor
open Go Go.Ab
variable {ext : Sem'}
/-- In brackets, or not. -/
def brk (b : Bool) (s : Str) : Str := if b then [40] ++ s ++ [41] else s
theorem brk_len (b : Bool) (s : Str) : (brk b s).length ≤ s.length + 2 := by
  unfold brk; split <;> simp
def showK (k n : Int) (name op : Str) (ks : List Ex0) (ts : List Str) : Str :=
  if k = 1 then Lib.itoa n
  else if k = 2 then name
  else if k = 3 then brk (decide ((ks.getD 0 Ex0.zero).kind = 4) || decide ((ks.getD 0 Ex0.zero).kind = 5)) (ts.getD 0 []) ++ [45, 62] ++ name
  else if k = 4 then
    brk (decide ((ks.getD 0 Ex0.zero).kind = 4) && (decide (bindsP (ks.getD 0 Ex0.zero).op < bindsP op) || (decide (bindsP op = 1) && decide (bindsP (ks.getD 0 Ex0.zero).op = 1)))) (ts.getD 0 []) ++ [32] ++ op ++ [32] ++
      brk (decide ((ks.getD 1 Ex0.zero).kind = 4) && decide (bindsP (ks.getD 1 Ex0.zero).op ≤ bindsP op)) (ts.getD 1 [])
  else if k = 5 then op ++ brk (decide ((ks.getD 0 Ex0.zero).kind = 4)) (ts.getD 0 [])
  else if k = 6 then [110, 117, 108, 108]
  else if k = 7 then [110, 101, 119, 32] ++ name
  else if k = 8 then [103, 101, 116, 40, 41]
  else name ++ [40] ++ joinL [44, 32] ts ++ [41]
mutual
/-- An expression's text. -/
def showE : Ex0 → Str
  | .mk k n s o ks _ => showK k n s o ks (showEs ks)
def showEs : List Ex0 → List Str
  | [] => []
  | e :: l => showE e :: showEs l
end
theorem showEs_map : ∀ l : List Ex0, showEs l = l.map showE
  | [] => rfl
  | e :: l => by simp only [showEs, List.map_cons]; rw [showEs_map l]
theorem showE_eq (e : Ex0) : showE e = showK e.kind e.n e.name e.op e.kids (e.kids.map showE) := by cases e; simp only [showE, showEs_map]; rfl
theorem joinL_len {sep : Str} {B : Nat} : ∀ {l : List Str}, (l.map List.length).sum + l.length * sep.length ≤ B → (joinL sep l).length ≤ B
  | [], _ => Nat.zero_le _
  | [x], h => by simp at h; simp only [joinL]; omega
  | x :: y :: l, h => by
    have := joinL_len (sep := sep) (l := y :: l) (B := B - x.length - sep.length) (by
      simp only [List.map_cons, List.sum_cons, List.length_cons, Nat.add_mul, Nat.one_mul] at h ⊢
      omega)
    simp only [joinL, List.length_append]
    simp only [List.map_cons, List.sum_cons, List.length_cons, Nat.add_mul, Nat.one_mul] at h
    omega
theorem itoa_len {n : Int} (h : okN n) : (Lib.itoa n).length ≤ 20 := by
  obtain ⟨h1, h2⟩ := h
  unfold Lib.itoa
  rw [if_neg (by omega)]
  generalize hk : n.toNat = k
  have hk2 : k ≤ 2147483647 := by omega
  have key : ∀ (m k : Nat), k < 10 ^ (m + 1) → (Lib.decDigits k).length ≤ m + 1 := by
    intro m
    induction m with
    | zero => intro k hk; rw [Lib.decDigits, dif_pos (by simpa using hk)]; simp
    | succ m ih =>
      intro k hk
      rw [Lib.decDigits]
      split
      · simp
      · have := ih (k / 10) (by rw [Nat.div_lt_iff_lt_mul (by decide)]; rw [Nat.pow_succ] at hk; exact hk)
        simp only [List.length_append, List.length_singleton]; omega
  have := key 9 k (by omega)
  omega
/-- How long it may be. -/
theorem showE_len : ∀ (m : Nat) (e : Ex0), cntE e ≤ m → okE e → (showE e).length + 2 ≤ 7000 * cntE e := by
  intro m
  induction m with
  | zero => intro e h; have := cntE_eq e; omega
  | succ m ih =>
    intro e hc ho
    have h1 := cntE_eq e
    rw [okE_eq] at ho
    obtain ⟨⟨hn, hs, hop⟩, ha, hk⟩ := ho
    replace hs := hs.1
    replace hop := hop.1
    have hkids : ∀ x, x ∈ e.kids → (showE x).length + 2 ≤ 7000 * cntE x := fun x hx => ih x (by have := cntEs_mem hx; omega) (okEs_mem hk hx)
    have hsum : ∀ (l : List Ex0), (∀ x, x ∈ l → (showE x).length + 2 ≤ 7000 * cntE x) → ((l.map showE).map List.length).sum + 2 * l.length ≤ 7000 * cntEs l := by
      intro l
      induction l with
      | nil => intro _; simp
      | cons x l ihl =>
        intro hx
        have a1 := hx x (by simp)
        have a2 := ihl (fun y hy => hx y (by simp [hy]))
        simp only [List.map_cons, List.sum_cons, cntEs, List.length_cons]
        omega
    have hS := hsum e.kids hkids
    have hL := cntEs_len e.kids
    have hget2 : ((e.kids.map showE).getD 0 []).length ≤ 7000 * cntEs e.kids := by
      cases hks : e.kids with
      | nil => simp
      | cons x l =>
        have := hkids x (by rw [hks]; simp)
        simp only [List.map_cons, List.getD_cons_zero, cntEs]; omega
    have hget3 : ((e.kids.map showE).getD 0 []).length + ((e.kids.map showE).getD 1 []).length ≤ 7000 * cntEs e.kids := by
      cases hks : e.kids with
      | nil => simp
      | cons x l =>
        have a1 := hkids x (by rw [hks]; simp)
        cases l with
        | nil => simp [cntEs]; omega
        | cons y l =>
          have a2 := hkids y (by rw [hks]; simp)
          simp only [List.map_cons, List.getD_cons_zero, List.getD_cons_succ, cntEs]; omega
    have hj := joinL_len (sep := [44, 32]) (l := e.kids.map showE) (B := 7000 * cntEs e.kids) (by
      simp only [List.length_map, List.length_cons, List.length_nil]; omega)
    rw [showE_eq]
    unfold showK
    have hi := itoa_len hn
    have hb := brk_len
    split
    · omega
    split
    · omega
    split
    · have := hb (decide ((e.kids.getD 0 Ex0.zero).kind = 4) || decide ((e.kids.getD 0 Ex0.zero).kind = 5)) ((e.kids.map showE).getD 0 [])
      simp only [List.length_append, List.length_cons, List.length_nil]; omega
    split
    · have b1 := hb (decide ((e.kids.getD 0 Ex0.zero).kind = 4) && (decide (bindsP (e.kids.getD 0 Ex0.zero).op < bindsP e.op) || (decide (bindsP e.op = 1) && decide (bindsP (e.kids.getD 0 Ex0.zero).op = 1)))) ((e.kids.map showE).getD 0 [])
      have b2 := hb (decide ((e.kids.getD 1 Ex0.zero).kind = 4) && decide (bindsP (e.kids.getD 1 Ex0.zero).op ≤ bindsP e.op)) ((e.kids.map showE).getD 1 [])
      simp only [List.length_append, List.length_cons, List.length_nil]; omega
    split
    · have := hb (decide ((e.kids.getD 0 Ex0.zero).kind = 4)) ((e.kids.map showE).getD 0 [])
      simp only [List.length_append]; omega
    split
    · simp only [List.length_cons, List.length_nil]; omega
    split
    · simp only [List.length_append, List.length_cons, List.length_nil]; omega
    split
    · simp only [List.length_cons, List.length_nil]; omega
    simp only [List.length_append, List.length_cons, List.length_nil]
    omega
end Go.Proofs.YtdpkdeimliohmaaDoor
