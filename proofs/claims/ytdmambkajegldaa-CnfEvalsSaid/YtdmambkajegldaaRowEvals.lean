/- CnfEvals answers true for all arguments, and leaves them as they read. Conditions: none. -/
import Derived.Test.YtdmambkajegldaaRows
import Derived.Test.YtdmambkajegldaaC12
import Derived.Test.YtdmambkajegldaaExtC3
import Derived.Test.YtdmambkajegldaaModC
import Derived.Test.YtdmambkajegldaaAbX4
namespace Go.Proofs.Ytdmambkajegldaa
open Go Go.Ab Go.ChangeShapes Go.WideShapes Go.ChangeAt Go.RowKit
theorem cnfEvals_own : ownKnob Try.prog.godebug = none := by kernel_rfl
theorem cnfEvals_laidOut : laidOutB Try.prog = true := by kernel_rfl
theorem cnfEvals_reads {l : List AV} (h : Reads [.st [.int .i64, .sl (.sl (.int .i64))], .sl .bool, .int .i64] l) : G extC 5 l [] = some (.ret (.d (.bool true)), []) := by
  obtain ⟨xs, l1, h1, rfl, ys, l2, h2, rfl, zs, l3, h3, rfl, rfl⟩ := h
  obtain ⟨f, e1⟩ := fm_arg h1
  obtain ⟨m, e2⟩ := model_arg h2
  obtain ⟨x, e3, _⟩ := int_arg h3
  rw [e1, e2, e3]
  exact evalsL_e extC_tx f m x
set_option maxRecDepth 100000 in
theorem cnfEvals_lifted (os : Os) (started : os.Started) (H : Type) (enc : TypeId × Value → H) :
    ReturnsInHanded {} Try.checked os 5 .any (Rows.cnfEvalsSpec.pre6 enc Try.prog Try.f5 Rows.cnfEvalsRow.domain false) (Rows.cnfEvalsSpec.post enc Try.prog Try.f5 false true false false) := by
  refine returnsInHanded_of_change (C := Try.checked) cnfEvals_own started (by kernel_rfl) Try.func5
    (ChangeSpec.witness6 (enc := enc) (C := Try.checked) false ⟨#[], #[.agg ⟨[.int .i64 0, .slice none 0 0]⟩, .slice none 0 0, .int .i64 0], []⟩ 8 (by kernel_rfl) (by kernel_rfl) (by kernel_rfl) (by kernel_rfl)) ?_
  intro W base args ds gs before hval hW _ _
  refine law_contract cnfEvals_laidOut (G_ok extC_ok) (Ts := [.st [.int .i64, .sl (.sl (.int .i64))], .sl .bool, .int .i64]) (by rw [Try.params5]; kernel_rfl) rfl ?_ (by kernel_rfl) Try.underlying4 (by rw [Try.params5]; decide +kernel) (fun l hl => cnfEvals_reads hl) W base args ds gs before hval hW
  intro ds hl
  match ds, hl with
  | [d0, d1, d2], _ => exact ⟨rfl, rfl, rfl⟩
theorem cnfEvals_holds : Rows.CnfEvalsSaid :=
  OpenClaim.holds_of_wide 5 Try.f5 rfl rfl rfl rfl rfl rfl rfl ⟨rfl, rfl, rfl, rfl, rfl⟩ rfl rfl rfl rfl rfl (by kernel_rfl) Try.func5 (by kernel_rfl)
    (of_decide_eq_true (by kernel_rfl)) (by unfold Func.isWrapper; first | (rw [if_pos (by decide +kernel)]; kernel_rfl) | (rw [if_neg (by decide +kernel)]; exact ⟨rfl, rfl⟩))
    (fun os started H enc _ => cnfEvals_lifted os started H enc)
end Go.Proofs.Ytdmambkajegldaa
