/- NamesMore answers true for all arguments, and leaves them as they read. Conditions: none. -/
import Derived.Test.YthfollapianblaaRows
import Derived.Test.YthfollapianblaaExtN
import Derived.Test.YthfollapianblaaN45
import Derived.Test.YthfollapianblaaAbX4
namespace Go.Proofs.Ythfollapianblaa
open Go Go.Ab Go.ChangeShapes Go.WideShapes Go.ChangeAt Go.RowKit
theorem namesMore_own : ownKnob Try.prog.godebug = none := by kernel_rfl
theorem namesMore_laidOut : laidOutB Try.prog = true := by kernel_rfl
theorem namesMore_reads {l : List AV} (h : Reads [.str] l) : G extN 6 l [] = some (.ret (.d (.bool true)), []) := by
  obtain ⟨x0, l0, h0, rfl, rfl⟩ := h
  obtain ⟨s, e0⟩ := str_arg h0
  rw [e0]
  exact moreL_e extN_t4 s
set_option maxRecDepth 100000 in
theorem namesMore_lifted (os : Os) (started : os.Started) (H : Type) (enc : TypeId × Value → H) :
    ReturnsInHanded {} Try.checked os 6 .any (Rows.namesMoreSpec.pre6 enc Try.prog Try.f6 Rows.namesMoreRow.domain false) (Rows.namesMoreSpec.post enc Try.prog Try.f6 false true false false) := by
  refine returnsInHanded_of_change (C := Try.checked) namesMore_own started (by kernel_rfl) Try.func6
    (ChangeSpec.witness6 (enc := enc) (C := Try.checked) false ⟨#[], #[.string ⟨#[]⟩], []⟩ 8 (by kernel_rfl) (by kernel_rfl) (by kernel_rfl) (by kernel_rfl)) ?_
  intro W base args ds gs before hval hW _ _
  refine law_contract namesMore_laidOut (G_ok extN_ok) (Ts := [.str]) (by rw [Try.params6]; kernel_rfl) rfl ?_ (by kernel_rfl) Try.underlying4 (by rw [Try.params6]; decide +kernel) (fun l hl => namesMore_reads hl) W base args ds gs before hval hW
  intro ds hl
  match ds, hl with
  | [d0], _ => exact ⟨rfl, rfl, rfl⟩
theorem namesMore_holds : Rows.NamesMoreSaid :=
  OpenClaim.holds_of_wide 6 Try.f6 rfl rfl rfl rfl rfl rfl rfl ⟨rfl, rfl, rfl, rfl, rfl⟩ rfl rfl rfl rfl rfl (by kernel_rfl) Try.func6 (by kernel_rfl)
    (of_decide_eq_true (by kernel_rfl)) (by unfold Func.isWrapper; first | (rw [if_pos (by decide +kernel)]; kernel_rfl) | (rw [if_neg (by decide +kernel)]; exact ⟨rfl, rfl⟩))
    (fun os started H enc _ => namesMore_lifted os started H enc)
end Go.Proofs.Ythfollapianblaa
