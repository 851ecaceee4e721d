/- CnfSound answers true for all arguments, and leaves them as they read. Conditions: none. -/
import Derived.Test.YtdmambkajegldaaRows
import Derived.Test.YtdmambkajegldaaC13
import Derived.Test.YtdmambkajegldaaExtC3
import Derived.Test.YtdmambkajegldaaModC
import Derived.Test.YtdmambkajegldaaAbX4
namespace Go.Proofs.Ytdmambkajegldaa
open Go Go.Ab Go.ChangeShapes Go.WideShapes Go.ChangeAt Go.RowKit
theorem cnfSound_own : ownKnob Try.prog.godebug = none := by kernel_rfl
theorem cnfSound_laidOut : laidOutB Try.prog = true := by kernel_rfl
theorem cnfSound_reads {l : List AV} (h : Reads [.st [.int .i64, .sl (.sl (.int .i64))], .int .i64, .int .i64, .int .i64, .sl .bool, .int .i64] l) : G extC 6 l [] = some (.ret (.d (.bool true)), []) := by
  obtain ⟨x0, l0, h0, rfl, x1, l1, h1, rfl, x2, l2, h2, rfl, x3, l3, h3, rfl, x4, l4, h4, rfl, x5, l5, h5, rfl, rfl⟩ := h
  obtain ⟨f, e0⟩ := fm_arg h0
  obtain ⟨n1, e1, _⟩ := int_arg h1
  obtain ⟨n2, e2, _⟩ := int_arg h2
  obtain ⟨n3, e3, k3⟩ := int_arg h3
  obtain ⟨m, e4⟩ := model_arg h4
  obtain ⟨x, e5, _⟩ := int_arg h5
  rw [e0, e1, e2, e3, e4, e5]
  exact soundL_e extC_tx f n1 n2 n3 m x k3.2
set_option maxRecDepth 100000 in
theorem cnfSound_lifted (os : Os) (started : os.Started) (H : Type) (enc : TypeId × Value → H) :
    ReturnsInHanded {} Try.checked os 6 .any (Rows.cnfSoundSpec.pre6 enc Try.prog Try.f6 Rows.cnfSoundRow.domain false) (Rows.cnfSoundSpec.post enc Try.prog Try.f6 false true false false) := by
  refine returnsInHanded_of_change (C := Try.checked) cnfSound_own started (by kernel_rfl) Try.func6
    (ChangeSpec.witness6 (enc := enc) (C := Try.checked) false ⟨#[], #[.agg ⟨[.int .i64 0, .slice none 0 0]⟩, .int .i64 0, .int .i64 0, .int .i64 0, .slice none 0 0, .int .i64 0], []⟩ 8 (by kernel_rfl) (by kernel_rfl) (by kernel_rfl) (by kernel_rfl)) ?_
  intro W base args ds gs before hval hW _ _
  refine law_contract cnfSound_laidOut (G_ok extC_ok) (Ts := [.st [.int .i64, .sl (.sl (.int .i64))], .int .i64, .int .i64, .int .i64, .sl .bool, .int .i64]) (by rw [Try.params6]; kernel_rfl) rfl ?_ (by kernel_rfl) Try.underlying4 (by rw [Try.params6]; decide +kernel) (fun l hl => cnfSound_reads hl) W base args ds gs before hval hW
  intro ds hl
  match ds, hl with
  | [d0, d1, d2, d3, d4, d5], _ => exact ⟨rfl, rfl, rfl⟩
theorem cnfSound_holds : Rows.CnfSoundSaid :=
  OpenClaim.holds_of_wide 6 Try.f6 rfl rfl rfl rfl rfl rfl rfl ⟨rfl, rfl, rfl, rfl, rfl⟩ rfl rfl rfl rfl rfl (by kernel_rfl) Try.func6 (by kernel_rfl)
    (of_decide_eq_true (by kernel_rfl)) (by unfold Func.isWrapper; first | (rw [if_pos (by decide +kernel)]; kernel_rfl) | (rw [if_neg (by decide +kernel)]; exact ⟨rfl, rfl⟩))
    (fun os started H enc _ => cnfSound_lifted os started H enc)
end Go.Proofs.Ytdmambkajegldaa
