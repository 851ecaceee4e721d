/- NamesLimits answers true for all arguments, and leaves them as they read. Conditions: none. -/
import Derived.Test.YthfollapianblaaRows
import Derived.Test.YthfollapianblaaExtN
import Derived.Test.YthfollapianblaaN46
import Derived.Test.YthfollapianblaaAbX4
namespace Go.Proofs.Ythfollapianblaa
open Go Go.Ab Go.ChangeShapes Go.WideShapes Go.ChangeAt Go.RowKit
theorem namesLimits_own : ownKnob Try.prog.godebug = none := by kernel_rfl
theorem namesLimits_laidOut : laidOutB Try.prog = true := by kernel_rfl
theorem namesLimits_reads {l : List AV} (h : Reads [.int .i64, .int .i64] l) : G extN 5 l [] = some (.ret (.d (.bool true)), []) := by
  obtain ⟨x0, l0, h0, rfl, x1, l1, h1, rfl, rfl⟩ := h
  obtain ⟨n, e0⟩ := num_arg h0
  obtain ⟨m, e1⟩ := num_arg h1
  rw [e0, e1]
  exact limitsL_e extN_t4 extN_rck n m
set_option maxRecDepth 100000 in
theorem namesLimits_lifted (os : Os) (started : os.Started) (H : Type) (enc : TypeId × Value → H) :
    ReturnsInHanded {} Try.checked os 5 .any (Rows.namesLimitsSpec.pre6 enc Try.prog Try.f5 Rows.namesLimitsRow.domain false) (Rows.namesLimitsSpec.post enc Try.prog Try.f5 false true false false) := by
  refine returnsInHanded_of_change (C := Try.checked) namesLimits_own started (by kernel_rfl) Try.func5
    (ChangeSpec.witness6 (enc := enc) (C := Try.checked) false ⟨#[], #[.int .i64 0, .int .i64 0], []⟩ 8 (by kernel_rfl) (by kernel_rfl) (by kernel_rfl) (by kernel_rfl)) ?_
  intro W base args ds gs before hval hW _ _
  refine law_contract namesLimits_laidOut (G_ok extN_ok) (Ts := [.int .i64, .int .i64]) (by rw [Try.params5]; kernel_rfl) rfl ?_ (by kernel_rfl) Try.underlying4 (by rw [Try.params5]; decide +kernel) (fun l hl => namesLimits_reads hl) W base args ds gs before hval hW
  intro ds hl
  match ds, hl with
  | [d0, d1], _ => exact ⟨rfl, rfl, rfl⟩
theorem namesLimits_holds : Rows.NamesLimitsSaid :=
  OpenClaim.holds_of_wide 5 Try.f5 rfl rfl rfl rfl rfl rfl rfl ⟨rfl, rfl, rfl, rfl, rfl⟩ rfl rfl rfl rfl rfl (by kernel_rfl) Try.func5 (by kernel_rfl)
    (of_decide_eq_true (by kernel_rfl)) (by unfold Func.isWrapper; first | (rw [if_pos (by decide +kernel)]; kernel_rfl) | (rw [if_neg (by decide +kernel)]; exact ⟨rfl, rfl⟩))
    (fun os started H enc _ => namesLimits_lifted os started H enc)
end Go.Proofs.Ythfollapianblaa
