/- BltypeSafe answers true for all arguments, and leaves them as they read. Conditions: none. -/
import Derived.Test.YticenbkhlifioaaRows
import Derived.Test.YticenbkhlifioaaL3
import Derived.Test.YticenbkhlifioaaExtM
import Derived.Test.YticenbkhlifioaaMod
import Derived.Test.YticenbkhlifioaaAbX4
namespace Go.Proofs.Yticenbkhlifioaa
open Go Go.Ab Go.ChangeShapes Go.WideShapes Go.ChangeAt Go.RowKit
theorem bltypeSafe_own : ownKnob Try.prog.godebug = none := by kernel_rfl
theorem bltypeSafe_laidOut : laidOutB Try.prog = true := by kernel_rfl
theorem bltypeSafe_reads {l : List AV} (h : Reads [modT] l) : G extM 3 l [] = some (.ret (.d (.bool true)), []) := by
  obtain ⟨xs, l1, h1, rfl, rfl⟩ := h
  obtain ⟨m, e, hm⟩ := mod_wf h1
  rw [e]
  exact safe_e extM_tm m hm.names
set_option maxRecDepth 100000 in
theorem bltypeSafe_lifted (os : Os) (started : os.Started) (H : Type) (enc : TypeId × Value → H) :
    ReturnsInHanded {} Try.checked os 3 .any (Rows.bltypeSafeSpec.pre6 enc Try.prog Try.f3 Rows.bltypeSafeRow.domain false) (Rows.bltypeSafeSpec.post enc Try.prog Try.f3 false true false false) := by
  refine returnsInHanded_of_change (C := Try.checked) bltypeSafe_own started (by kernel_rfl) Try.func3
    (ChangeSpec.witness6 (enc := enc) (C := Try.checked) false ⟨#[], #[.agg ⟨[.slice none 0 0, .slice none 0 0]⟩], []⟩ 8 (by kernel_rfl) (by kernel_rfl) (by kernel_rfl) (by kernel_rfl)) ?_
  intro W base args ds gs before hval hW _ _
  refine law_contract bltypeSafe_laidOut (G_ok extM_ok) (Ts := [modT]) (by rw [Try.params3]; kernel_rfl) rfl ?_ (by kernel_rfl) Try.underlying4 (by rw [Try.params3]; decide +kernel) (fun l hl => bltypeSafe_reads hl) W base args ds gs before hval hW
  intro ds hl
  match ds, hl with
  | [d0], _ => exact ⟨rfl, rfl, rfl⟩
theorem bltypeSafe_holds : Rows.BltypeSafeSaid :=
  OpenClaim.holds_of_wide 3 Try.f3 rfl rfl rfl rfl rfl rfl rfl ⟨rfl, rfl, rfl, rfl, rfl⟩ rfl rfl rfl rfl rfl (by kernel_rfl) Try.func3 (by kernel_rfl)
    (of_decide_eq_true (by kernel_rfl)) (by unfold Func.isWrapper; first | (rw [if_pos (by decide +kernel)]; kernel_rfl) | (rw [if_neg (by decide +kernel)]; exact ⟨rfl, rfl⟩))
    (fun os started H enc _ => bltypeSafe_lifted os started H enc)
end Go.Proofs.Yticenbkhlifioaa
