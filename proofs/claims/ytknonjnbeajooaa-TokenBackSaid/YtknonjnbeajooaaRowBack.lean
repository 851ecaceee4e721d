/- TokenBack answers true for every text, and leaves its argument as it reads. Conditions: none. -/
import Derived.Test.YtknonjnbeajooaaRows
import Derived.Test.YtknonjnbeajooaaT16
import Derived.Test.YtknonjnbeajooaaAbX4
namespace Go.Proofs.Ytknonjnbeajooaa
open Go Go.Ab Go.ChangeShapes Go.WideShapes Go.ChangeAt Go.RowKit
theorem own : ownKnob Try.prog.godebug = none := by kernel_rfl
theorem laidOut : laidOutB Try.prog = true := by kernel_rfl
def backT : List DT := [.str]
theorem back_reads {l : List AV} (h : Reads backT l) : G ext2 5 l [] = some (.ret (.d (.bool true)), []) := by
  obtain ⟨xs, l1, h1, rfl, rfl⟩ := h
  simp only [WfD] at h1
  obtain ⟨s, rfl, hs⟩ := h1
  exact law5_e ext2_txj s hs
theorem tokenBack_lifted (os : Os) (started : os.Started) (H : Type) (enc : TypeId × Value → H) :
    ReturnsInHanded {} Try.checked os 5 .any (Rows.tokenBackSpec.pre6 enc Try.prog Try.f5 Rows.tokenBackRow.domain false) (Rows.tokenBackSpec.post enc Try.prog Try.f5 false true false false) := by
  refine returnsInHanded_of_change (C := Try.checked) own started (by kernel_rfl) Try.func5
    (ChangeSpec.witness6 (enc := enc) (C := Try.checked) false ⟨#[], #[.string ⟨#[]⟩], []⟩ 8 (by kernel_rfl) (by kernel_rfl) (by kernel_rfl) (by kernel_rfl)) ?_
  intro W base args ds gs before hval hW _ _
  refine law_contract laidOut (G_ok ext2_ok) (Ts := backT) (by rw [Try.params5]; kernel_rfl) rfl ?_ (by kernel_rfl) Try.underlying4 (by rw [Try.params5]; decide +kernel) (fun l hl => back_reads hl) W base args ds gs before hval hW
  intro ds hl
  match ds, hl with
  | [d1], _ => exact ⟨rfl, rfl, rfl⟩
theorem tokenBack_holds : Rows.TokenBackSaid :=
  OpenClaim.holds_of_wide 5 Try.f5 rfl rfl rfl rfl rfl rfl rfl ⟨rfl, rfl, rfl, rfl, rfl⟩ rfl rfl rfl rfl rfl (by kernel_rfl) Try.func5 (by kernel_rfl)
    (of_decide_eq_true (by kernel_rfl)) (by unfold Func.isWrapper; first | (rw [if_pos (by decide +kernel)]; kernel_rfl) | (rw [if_neg (by decide +kernel)]; exact ⟨rfl, rfl⟩))
    (fun os started H enc _ => tokenBack_lifted os started H enc)
end Go.Proofs.Ytknonjnbeajooaa
