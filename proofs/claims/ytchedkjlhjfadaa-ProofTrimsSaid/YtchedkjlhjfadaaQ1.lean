/- Law 16: what is known besides; the example. Conditions: none. -/
import Derived.Test.YtchedkjlhjfadaaC9
import Derived.Test.YtchedkjlhjfadaaP14
set_option linter.unusedSimpArgs false
set_option linter.unusedVariables false
namespace Go.Proofs.Ytchedkjlhjfadaa
open Go Go.Ab
variable {ext : Sem'}
def rowL (l : List (List Int)) : List Dt := [.sl (l.map rowC)]
/-- What is known besides, of lists of clauses. -/
structure TXP (ext : Sem') : Prop extends TX ext where
  clone2 : ∀ l : List (List Int), l.length ≤ 1000000 → ext 42 [.d (.sl (l.map rowC))] [] = some (.ret (.grow 0 0 (l.map rowC)), [.grow 0 1])
  conc2 : ∀ a b : List (List Int), a.length ≤ 10000 → b.length ≤ 10000 → ext 69 [.d (.sl ([a, b].map rowL))] [] = some (.ret (.d (.sl ((a ++ b).map rowC))), [])
theorem fnil : ∀ x, x ∈ ([] : List Fact) → G ext x.f x.as x.H = some x.r := fun _ h => by cases h
theorem fcons {f : Nat} {xs : List AV} {H : List AObj} {r : Out × List AObj} {t : List Fact} (h : G ext f xs H = some r) (ht : ∀ x, x ∈ t → G ext x.f x.as x.H = some x.r) : ∀ x, x ∈ (⟨f, xs, H, r⟩ : Fact) :: t → G ext x.f x.as x.H = some x.r := fun x hx => by
  rcases List.mem_cons.1 hx with rfl | hx
  · exact h
  · exact ht x hx
set_option maxRecDepth 100000 in
theorem alive16_e (hx : TXP ext) : G ext 11 [] [] = some (.ret (.d (.bool true)), []) := by
  have h1 := resolve_e hx.toTX [-1] [1] 1 (by decide) (by decide) (by decide)
  have h2 := resolve_e hx.toTX [1] [-1] 1 (by decide) (by decide) (by decide)
  rw [show resolveP [-1] [1] 1 = none by decide] at h1
  rw [show resolveP [1] [-1] 1 = some [] by decide] at h2
  have h3 := G_ext (hx.clone2 [[1], [-1]] (by decide))
  have h4 := G_ext (hx.conc2 [[1], [-1]] [[]] (by decide) (by decide))
  have h5 := G_ext (hx.conc2 [[1], [-1]] [] (by decide) (by decide))
  exact G_runT hx.clear _ (fcons h1 (fcons h2 (fcons h3 (fcons h4 (fcons h5 fnil))))) 12 14 (by kernel_rfl)
end Go.Proofs.Ytchedkjlhjfadaa
