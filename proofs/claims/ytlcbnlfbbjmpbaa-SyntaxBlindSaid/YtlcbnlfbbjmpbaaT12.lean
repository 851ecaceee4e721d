/- the example; the tokens one by one. Conditions: none. -/
import Derived.Test.YtlcbnlfbbjmpbaaTA
namespace Go.Proofs.Ytlcbnlfbbjmpbaa
open Go Go.Ab
variable {ext : Sem'}
def exText : List UInt8 := [120, 45, 62, 121, 60, 61, 49, 48]
def exToks : List Tok := [⟨1, [120], 0, (1, 1)⟩, ⟨4, [45, 62], 0, (1, 2)⟩, ⟨1, [121], 0, (1, 4)⟩, ⟨4, [60, 61], 0, (1, 5)⟩, ⟨3, [49, 48], 10, (1, 7)⟩, ⟨5, [], 0, (1, 9)⟩]
theorem exEach : eachL exText = exToks.map fun t => (t, Dg.zero) := by kernel_rfl
theorem eachL_split (s : List UInt8) : ∃ ts d, refR (eachL s) = (ts, d) ∧ (eachL s = ts.map (fun t => (t, Dg.zero)) ∧ d = Dg.zero ∨ eachL s = ts.map (fun t => (t, Dg.zero)) ++ [(Tok.zero, d)] ∧ d.what ≠ 0) := by
  have key : ∀ gs : List (Tok × Dg), (∀ x, x ∈ gs → x.2 = Dg.zero) → gs = (gs.map (·.1)).map fun t => (t, Dg.zero) := by
    intro gs h
    induction gs with
    | nil => rfl
    | cons x gs ih =>
      simp only [List.map_cons]
      rw [← ih (fun y hy => h y (by simp [hy]))]
      congr 1
      have := h x (by simp)
      obtain ⟨a, b⟩ := x
      simp only at this
      rw [this]
  rcases eachL_shape s with h | ⟨gs, d, h1, h2, h3⟩
  · exact ⟨(eachL s).map (·.1), Dg.zero, by rw [key _ h, refR_good]; simp [Function.comp_def], .inl ⟨key _ h, rfl⟩⟩
  · exact ⟨gs.map (·.1), d, by rw [h1, key gs h3, refR_bad _ h2]; simp [Function.comp_def], .inr ⟨by rw [← key gs h3]; exact h1, h2⟩⟩
end Go.Proofs.Ytlcbnlfbbjmpbaa
