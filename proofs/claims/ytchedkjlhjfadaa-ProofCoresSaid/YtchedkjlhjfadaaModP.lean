/- Steps as a row reads them. Conditions: none. -/
import Derived.Test.YtchedkjlhjfadaaModC
import Derived.Test.YtchedkjlhjfadaaQA
namespace Go.Proofs.Ytchedkjlhjfadaa
open Go Go.Ab
theorem steps_arg {xs : List Dt} (h : WfD (.sl (.st [.int .i64, .int .i64, .int .i64])) xs) : ∃ l : List Ps, argOf (.sl (.st [.int .i64, .int .i64, .int .i64])) xs = .d (.sl (l.map rowS)) := by
  obtain ⟨l, rfl, _, _⟩ := sl_of (f := rowS) (Q := fun _ => True) (fun xs h => by
    obtain ⟨_, _, rfl, h1, h⟩ := st1 h
    obtain ⟨_, _, rfl, h2, h⟩ := st1 h
    obtain ⟨_, _, rfl, h3, h⟩ := st1 h
    obtain rfl := st0 h
    obtain ⟨a, rfl, _⟩ := int_wf h1
    obtain ⟨b, rfl, _⟩ := int_wf h2
    obtain ⟨c, rfl, _⟩ := int_wf h3
    exact ⟨⟨a, b, c⟩, rfl, trivial⟩) h
  exact ⟨l, rfl⟩
end Go.Proofs.Ytchedkjlhjfadaa
