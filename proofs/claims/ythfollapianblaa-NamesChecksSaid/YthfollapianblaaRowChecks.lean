/- NamesChecks answers true for all arguments, and leaves them as they read. Conditions: none. -/
import Derived.Test.YthfollapianblaaRows
import Derived.Test.YthfollapianblaaExtN
import Derived.Test.YthfollapianblaaAbX4
namespace Go.Proofs.Ythfollapianblaa
open Go Go.Ab Go.ChangeShapes Go.WideShapes Go.ChangeAt Go.RowKit
theorem namesChecks_own : ownKnob Try.prog.godebug = none := by kernel_rfl
theorem namesChecks_laidOut : laidOutB Try.prog = true := by kernel_rfl
theorem namesChecks_reads {l : List AV} (h : Reads [.str] l) : G extN 3 l [] = some (.ret (.d (.bool true)), []) := by
  obtain ⟨x0, l0, h0, rfl, rfl⟩ := h
  obtain ⟨s, e0⟩ := str_arg h0
  rw [e0]
  exact checksL_e extN_t4 extN_rck s
set_option maxRecDepth 100000 in
theorem namesChecks_lifted (os : Os) (started : os.Started) (H : Type) (enc : TypeId × Value → H) :
    ReturnsInHanded {} Try.checked os 3 .any (Rows.namesChecksSpec.pre6 enc Try.prog Try.f3 Rows.namesChecksRow.domain false) (Rows.namesChecksSpec.post enc Try.prog Try.f3 false true false false) := by
  refine returnsInHanded_of_change (C := Try.checked) namesChecks_own started (by kernel_rfl) Try.func3
    (ChangeSpec.witness6 (enc := enc) (C := Try.checked) false ⟨#[], #[.string ⟨#[]⟩], []⟩ 8 (by kernel_rfl) (by kernel_rfl) (by kernel_rfl) (by kernel_rfl)) ?_
  intro W base args ds gs before hval hW _ _
  refine law_contract namesChecks_laidOut (G_ok extN_ok) (Ts := [.str]) (by rw [Try.params3]; kernel_rfl) rfl ?_ (by kernel_rfl) Try.underlying4 (by rw [Try.params3]; decide +kernel) (fun l hl => namesChecks_reads hl) W base args ds gs before hval hW
  intro ds hl
  match ds, hl with
  | [d0], _ => exact ⟨rfl, rfl, rfl⟩
theorem namesChecks_holds : Rows.NamesChecksSaid :=
  OpenClaim.holds_of_wide 3 Try.f3 rfl rfl rfl rfl rfl rfl rfl ⟨rfl, rfl, rfl, rfl, rfl⟩ rfl rfl rfl rfl rfl (by kernel_rfl) Try.func3 (by kernel_rfl)
    (of_decide_eq_true (by kernel_rfl)) (by unfold Func.isWrapper; first | (rw [if_pos (by decide +kernel)]; kernel_rfl) | (rw [if_neg (by decide +kernel)]; exact ⟨rfl, rfl⟩))
    (fun os started H enc _ => namesChecks_lifted os started H enc)
end Go.Proofs.Ythfollapianblaa
