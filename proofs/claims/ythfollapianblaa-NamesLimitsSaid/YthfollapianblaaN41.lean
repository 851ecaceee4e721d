/- Programs of as many structs and functions as are asked, as plain maths. Conditions: none. -/
import Derived.Test.YthfollapianblaaN40
import Derived.Test.YthfollapianblaaW4
set_option linter.unusedSimpArgs false
set_option linter.unusedVariables false
namespace Go.Proofs.Ythfollapianblaa
open Go Go.Ab
theorem wrdP_inj {s : Str} {i j : Nat} (hi : i ≤ 100) (hj : j ≤ 100) (h : wrdP s i = wrdP s j) : i = j := by
  unfold wrdP at h
  have h2 := List.append_cancel_left h
  simp only [List.cons.injEq, and_true] at h2
  obtain ⟨h3, h4⟩ := h2
  have h5 := congrArg UInt8.toNat h3
  have h6 := congrArg UInt8.toNat h4
  rw [UInt8.toNat_ofNat', UInt8.toNat_ofNat'] at h5 h6
  omega
def limSs (n : Nat) : List Sr0 := (List.range n).map fun i => ⟨wrdP [115] i, [], ⟨1, i⟩⟩
def limFs (n : Nat) : List Fn0 := (List.range n).map fun i => zeroF (wrdP [102] i) ⟨2, i⟩
def mainF : Fn0 := zeroF [109, 97, 105, 110] ⟨3, 1⟩
def limP (n m : Nat) : Pr0 := ⟨limSs n, limFs m ++ [mainF]⟩
theorem limSs_succ (n : Nat) : limSs (n + 1) = limSs n ++ [⟨wrdP [115] n, [], ⟨1, n⟩⟩] := by unfold limSs; rw [List.range_succ, List.map_append]; rfl
theorem limFs_succ (n : Nat) : limFs (n + 1) = limFs n ++ [zeroF (wrdP [102] n) ⟨2, n⟩] := by unfold limFs; rw [List.range_succ, List.map_append]; rfl
theorem limSs_len (n : Nat) : (limSs n).length = n := by unfold limSs; simp
theorem limFs_len (n : Nat) : (limFs n).length = n := by unfold limFs; simp
theorem limSs_any {n i : Nat} (hi : i ≤ 100) (hn : n ≤ i) : (limSs n).any (nmS (wrdP [115] i)) = false := by
  unfold limSs
  rw [List.any_map, List.any_eq_false]
  intro j hj
  rw [List.mem_range] at hj
  show ¬ nmS _ _ = true
  unfold nmS
  simp only [decide_eq_true_eq]
  intro e
  have := wrdP_inj (by omega) hi e
  omega
theorem limFs_any {n i : Nat} (hi : i ≤ 100) (hn : n ≤ i) : (limFs n).any (nmF (wrdP [102] i)) = false := by
  unfold limFs
  rw [List.any_map, List.any_eq_false]
  intro j hj
  rw [List.mem_range] at hj
  show ¬ nmF _ _ = true
  unfold nmF zeroF
  simp only [decide_eq_true_eq]
  intro e
  have := wrdP_inj (by omega) hi e
  omega
theorem limFs_main (n : Nat) : (limFs n).any (nmF [109, 97, 105, 110]) = false := by
  unfold limFs
  rw [List.any_map, List.any_eq_false]
  intro j _
  show ¬ nmF _ _ = true
  unfold nmF zeroF wrdP
  simp
theorem limSs_ok (p : Pr0) : ∀ n : Nat, n ≤ 100 → structsK p [] (limSs n) = .ok ()
  | 0, _ => rfl
  | n + 1, h => by
    rw [limSs_succ, structsK_snoc, limSs_ok p n (by omega)]
    have := limSs_any (n := n) (i := n) (by omega) (Nat.le_refl _)
    simp only [andT, List.nil_append, structsK, this, fieldsP]
    rfl
theorem limFs_ok : ∀ n : Nat, n ≤ 100 → namesK [] (limFs n) = .ok ()
  | 0, _ => rfl
  | n + 1, h => by
    rw [limFs_succ, namesK_snoc, limFs_ok n (by omega)]
    have := limFs_any (n := n) (i := n) (by omega) (Nat.le_refl _)
    simp only [andT, List.nil_append, namesK, zeroF] at this ⊢
    rw [this]
    rfl
theorem limFs_fun (p : Pr0) : ∀ n : Nat, functionsK p (limFs n) = .ok ()
  | 0 => rfl
  | n + 1 => by
    rw [limFs_succ, functionsK_snoc, limFs_fun p n]
    simp only [andT, functionsK, zeroF_ok]
theorem idxP_of_not {α : Type} {p : α → Bool} {l : List α} {x : α} (h : l.any p = false) (hx : p x = true) : idxP p (l ++ [x]) = some l.length := by
  induction l with
  | nil => simp [idxP, hx]
  | cons y l ih =>
    simp only [List.any_cons, Bool.or_eq_false_iff] at h
    simp only [List.cons_append, idxP, h.1, Bool.false_eq_true, if_false, ih h.2, Option.map_some, List.length_cons]
theorem limP_check (n m : Nat) (hn : n ≤ 35) (hm : m ≤ 70) : (dgOf (checkP (limP n m))).what = if 30 < n ∨ 60 < m + 1 then 2 else 0 := by
  have hl : (limFs m ++ [mainF]).length = m + 1 := by rw [List.length_append, limFs_len]; rfl
  unfold checkP structsP funcsP limP
  by_cases h1 : 30 < n
  · have hg : (limSs n)[30]? = some ((limSs n)[30]'(by rw [limSs_len]; exact h1)) := List.getElem?_eq_getElem _
    rw [if_pos (.inl h1)]
    unfold limS
    simp only [hg]
    rfl
  · rw [limS_ok (by rw [limSs_len]; omega), limSs_ok _ n (by omega)]
    simp only [andT]
    by_cases h2 : 60 < m + 1
    · have hg : (limFs m ++ [mainF])[60]? = some ((limFs m ++ [mainF])[60]'(by rw [hl]; exact h2)) := List.getElem?_eq_getElem _
      rw [if_pos (.inr h2)]
      unfold limF
      simp only [hg]
      rfl
    · rw [limF_ok (by rw [hl]; omega), namesK_snoc, limFs_ok m (by omega), functionsK_snoc, limFs_fun _ m]
      have e1 : (([] : List Fn0) ++ limFs m).any (nmF mainF.name) = false := limFs_main m
      have e2 : mainB ⟨limSs n, limFs m ++ [mainF]⟩ = true := by
        unfold mainB
        rw [idxP_of_not (limFs_main m) (by rfl)]
        simp only [Option.bind_some]
        rw [List.getElem?_append_right (Nat.le_refl _), Nat.sub_self]
        rfl
      rw [if_neg (by omega)]
      simp only [andT, namesK, e1, functionsK, e2]
      rfl
end Go.Proofs.Ythfollapianblaa
