/- A set of numbers, as a map. Conditions: none. -/
import Derived.Test.YtchedkjlhjfadaaCB
set_option linter.unusedSimpArgs false
set_option linter.unusedVariables false
namespace Go.Proofs.Ytchedkjlhjfadaa
open Go Go.Ab
/-- A set of numbers, as a map. -/
def kE (s : List Int) : List (AV × AV) := s.map fun x => (.d (.int .i64 x), .d (.bool true))
theorem refsM_kE : ∀ s : List Int, refsM (kE s) = []
  | [] => rfl
  | x :: s => by have := refsM_kE s; simp only [kE, List.map_cons, refsM] at this ⊢; rw [this]; rfl
theorem findM_kE (x : Int) : ∀ s : List Int, findM (.int .i64) (.d (.int .i64 x)) (kE s) = some (if x ∈ s then some (.d (.bool true)) else none)
  | [] => by simp [kE, findM, keyEq]
  | y :: s => by
    have ih := findM_kE x s
    simp only [kE, List.map_cons, findM, keyEq] at ih ⊢
    by_cases h : x = y
    · simp [h]
    · simp only [and_self, if_true, h, decide_false]
      rw [ih]
      simp [h]
def addK (s : List Int) (x : Int) : List Int := if x ∈ s then s else s ++ [x]
theorem mem_addK {s : List Int} {x y : Int} : y ∈ addK s x ↔ y ∈ s ∨ y = x := by
  unfold addK
  split
  · rename_i h
    exact ⟨.inl, fun h' => h'.elim id (fun e => e ▸ h)⟩
  · simp
theorem setM_kE (x : Int) : ∀ s : List Int, setM (.int .i64) (.d (.int .i64 x)) (.d (.bool true)) (kE s) = some (kE (addK s x))
  | [] => by simp [kE, setM, keyEq, addK]
  | y :: s => by
    have ih := setM_kE x s
    simp only [kE, List.map_cons, setM, keyEq] at ih ⊢
    by_cases h : x = y
    · simp [h, addK]
    · simp only [and_self, if_true, h, decide_false]
      rw [ih]
      unfold addK
      by_cases hm : x ∈ s
      · rw [if_pos hm, if_pos (by simp [hm])]; rfl
      · rw [if_neg hm, if_neg (by simp [h, hm])]; rfl
end Go.Proofs.Ytchedkjlhjfadaa
