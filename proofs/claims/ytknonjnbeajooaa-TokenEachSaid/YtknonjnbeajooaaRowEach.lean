/- TokenEach answers true for every text and every stop, and leaves its arguments as they read. Conditions: none. -/
import Derived.Test.YtknonjnbeajooaaRows
import Derived.Test.YtknonjnbeajooaaT12
import Derived.Test.YtknonjnbeajooaaTExt
import Derived.Test.YtknonjnbeajooaaAbX4
namespace Go.Proofs.Ytknonjnbeajooaa
open Go Go.Ab Go.ChangeShapes Go.WideShapes Go.ChangeAt Go.RowKit
theorem own : ownKnob Try.prog.godebug = none := by kernel_rfl
theorem laidOut : laidOutB Try.prog = true := by kernel_rfl
def eachT : List DT := [.str, .int .i64]
theorem each_reads {l : List AV} (h : Reads eachT l) : G ext1 3 l [] = some (.ret (.d (.bool true)), []) := by
  obtain ⟨xs, l1, h1, rfl, ys, l2, h2, rfl, rfl⟩ := h
  simp only [WfD] at h1 h2
  obtain ⟨s, rfl, hs⟩ := h1
  obtain ⟨n, rfl, _⟩ := h2
  exact law3_e ext1_tx s n hs
theorem tokenEach_lifted (os : Os) (started : os.Started) (H : Type) (enc : TypeId × Value → H) :
    ReturnsInHanded {} Try.checked os 3 .any (Rows.tokenEachSpec.pre6 enc Try.prog Try.f3 Rows.tokenEachRow.domain false) (Rows.tokenEachSpec.post enc Try.prog Try.f3 false true false false) := by
  refine returnsInHanded_of_change (C := Try.checked) own started (by kernel_rfl) Try.func3
    (ChangeSpec.witness6 (enc := enc) (C := Try.checked) false ⟨#[], #[.string ⟨#[]⟩, .int .i64 0], []⟩ 8 (by kernel_rfl) (by kernel_rfl) (by kernel_rfl) (by kernel_rfl)) ?_
  intro W base args ds gs before hval hW _ _
  refine law_contract laidOut (G_ok ext1_ok) (Ts := eachT) (by rw [Try.params3]; kernel_rfl) rfl ?_ (by kernel_rfl) Try.underlying4 (by rw [Try.params3]; decide +kernel) (fun l hl => each_reads hl) W base args ds gs before hval hW
  intro ds hl
  match ds, hl with
  | [d1, d2], _ => exact ⟨rfl, rfl, rfl⟩
theorem tokenEach_holds : Rows.TokenEachSaid :=
  OpenClaim.holds_of_wide 3 Try.f3 rfl rfl rfl rfl rfl rfl rfl ⟨rfl, rfl, rfl, rfl, rfl⟩ rfl rfl rfl rfl rfl (by kernel_rfl) Try.func3 (by kernel_rfl)
    (of_decide_eq_true (by kernel_rfl)) (by unfold Func.isWrapper; first | (rw [if_pos (by decide +kernel)]; kernel_rfl) | (rw [if_neg (by decide +kernel)]; exact ⟨rfl, rfl⟩))
    (fun os started H enc _ => tokenEach_lifted os started H enc)
end Go.Proofs.Ytknonjnbeajooaa
