/- ProofTrims answers true for all arguments, and leaves them as they read. Conditions: none. -/
import Derived.Test.YtchedkjlhjfadaaRows
import Derived.Test.YtchedkjlhjfadaaQ11
import Derived.Test.YtchedkjlhjfadaaExtP
import Derived.Test.YtchedkjlhjfadaaModP
import Derived.Test.YtchedkjlhjfadaaAbX4
namespace Go.Proofs.Ytchedkjlhjfadaa
open Go Go.Ab Go.ChangeShapes Go.WideShapes Go.ChangeAt Go.RowKit
theorem proofTrims_own : ownKnob Try.prog.godebug = none := by kernel_rfl
theorem proofTrims_laidOut : laidOutB Try.prog = true := by kernel_rfl
theorem proofTrims_reads {l : List AV} (h : Reads [.st [.int .i64, .sl (.sl (.int .i64))], .sl (.st [.int .i64, .int .i64, .int .i64])] l) : G extP 6 l [] = some (.ret (.d (.bool true)), []) := by
  obtain ⟨x0, l0, h0, rfl, x1, l1, h1, rfl, rfl⟩ := h
  obtain ⟨f, e0⟩ := fm_arg h0
  obtain ⟨ls, e1⟩ := steps_arg h1
  rw [e0, e1]
  exact trimsL_e extP_txp f ls
set_option maxRecDepth 100000 in
theorem proofTrims_lifted (os : Os) (started : os.Started) (H : Type) (enc : TypeId × Value → H) :
    ReturnsInHanded {} Try.checked os 6 .any (Rows.proofTrimsSpec.pre6 enc Try.prog Try.f6 Rows.proofTrimsRow.domain false) (Rows.proofTrimsSpec.post enc Try.prog Try.f6 false true false false) := by
  refine returnsInHanded_of_change (C := Try.checked) proofTrims_own started (by kernel_rfl) Try.func6
    (ChangeSpec.witness6 (enc := enc) (C := Try.checked) false ⟨#[], #[.agg ⟨[.int .i64 0, .slice none 0 0]⟩, .slice none 0 0], []⟩ 8 (by kernel_rfl) (by kernel_rfl) (by kernel_rfl) (by kernel_rfl)) ?_
  intro W base args ds gs before hval hW _ _
  refine law_contract proofTrims_laidOut (G_ok extP_ok) (Ts := [.st [.int .i64, .sl (.sl (.int .i64))], .sl (.st [.int .i64, .int .i64, .int .i64])]) (by rw [Try.params6]; kernel_rfl) rfl ?_ (by kernel_rfl) Try.underlying4 (by rw [Try.params6]; decide +kernel) (fun l hl => proofTrims_reads hl) W base args ds gs before hval hW
  intro ds hl
  match ds, hl with
  | [d0, d1], _ => exact ⟨rfl, rfl, rfl⟩
theorem proofTrims_holds : Rows.ProofTrimsSaid :=
  OpenClaim.holds_of_wide 6 Try.f6 rfl rfl rfl rfl rfl rfl rfl ⟨rfl, rfl, rfl, rfl, rfl⟩ rfl rfl rfl rfl rfl (by kernel_rfl) Try.func6 (by kernel_rfl)
    (of_decide_eq_true (by kernel_rfl)) (by unfold Func.isWrapper; first | (rw [if_pos (by decide +kernel)]; kernel_rfl) | (rw [if_neg (by decide +kernel)]; exact ⟨rfl, rfl⟩))
    (fun os started H enc _ => proofTrims_lifted os started H enc)
end Go.Proofs.Ytchedkjlhjfadaa
