/- CnfOrder answers true for all arguments, and leaves them as they read. Conditions: none. -/
import Derived.Test.YtdmambkajegldaaRows
import Derived.Test.YtdmambkajegldaaC12
import Derived.Test.YtdmambkajegldaaExtC3
import Derived.Test.YtdmambkajegldaaModC
import Derived.Test.YtdmambkajegldaaAbX4
namespace Go.Proofs.Ytdmambkajegldaa
open Go Go.Ab Go.ChangeShapes Go.WideShapes Go.ChangeAt Go.RowKit
theorem cnfOrder_own : ownKnob Try.prog.godebug = none := by kernel_rfl
theorem cnfOrder_laidOut : laidOutB Try.prog = true := by kernel_rfl
theorem cnfOrder_reads {l : List AV} (h : Reads [.sl (.int .i64), .sl .bool] l) : G extC 3 l [] = some (.ret (.d (.bool true)), []) := by
  obtain ⟨xs, l1, h1, rfl, ys, l2, h2, rfl, rfl⟩ := h
  obtain ⟨c, e1⟩ := clause_arg h1
  obtain ⟨m, e2⟩ := model_arg h2
  rw [e1, e2]
  exact orderL_e extC_tx c m
set_option maxRecDepth 100000 in
theorem cnfOrder_lifted (os : Os) (started : os.Started) (H : Type) (enc : TypeId × Value → H) :
    ReturnsInHanded {} Try.checked os 3 .any (Rows.cnfOrderSpec.pre6 enc Try.prog Try.f3 Rows.cnfOrderRow.domain false) (Rows.cnfOrderSpec.post enc Try.prog Try.f3 false true false false) := by
  refine returnsInHanded_of_change (C := Try.checked) cnfOrder_own started (by kernel_rfl) Try.func3
    (ChangeSpec.witness6 (enc := enc) (C := Try.checked) false ⟨#[], #[.slice none 0 0, .slice none 0 0], []⟩ 8 (by kernel_rfl) (by kernel_rfl) (by kernel_rfl) (by kernel_rfl)) ?_
  intro W base args ds gs before hval hW _ _
  refine law_contract cnfOrder_laidOut (G_ok extC_ok) (Ts := [.sl (.int .i64), .sl .bool]) (by rw [Try.params3]; kernel_rfl) rfl ?_ (by kernel_rfl) Try.underlying4 (by rw [Try.params3]; decide +kernel) (fun l hl => cnfOrder_reads hl) W base args ds gs before hval hW
  intro ds hl
  match ds, hl with
  | [d0, d1], _ => exact ⟨rfl, rfl, rfl⟩
theorem cnfOrder_holds : Rows.CnfOrderSaid :=
  OpenClaim.holds_of_wide 3 Try.f3 rfl rfl rfl rfl rfl rfl rfl ⟨rfl, rfl, rfl, rfl, rfl⟩ rfl rfl rfl rfl rfl (by kernel_rfl) Try.func3 (by kernel_rfl)
    (of_decide_eq_true (by kernel_rfl)) (by unfold Func.isWrapper; first | (rw [if_pos (by decide +kernel)]; kernel_rfl) | (rw [if_neg (by decide +kernel)]; exact ⟨rfl, rfl⟩))
    (fun os started H enc _ => cnfOrder_lifted os started H enc)
end Go.Proofs.Ytdmambkajegldaa
