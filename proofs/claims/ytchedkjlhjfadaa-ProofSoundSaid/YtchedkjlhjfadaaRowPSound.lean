/- ProofSound answers true for all arguments, and leaves them as they read. Conditions: none. -/
import Derived.Test.YtchedkjlhjfadaaRows
import Derived.Test.YtchedkjlhjfadaaQ5
import Derived.Test.YtchedkjlhjfadaaExtP
import Derived.Test.YtchedkjlhjfadaaModP
import Derived.Test.YtchedkjlhjfadaaAbX4
namespace Go.Proofs.Ytchedkjlhjfadaa
open Go Go.Ab Go.ChangeShapes Go.WideShapes Go.ChangeAt Go.RowKit
theorem proofSound_own : ownKnob Try.prog.godebug = none := by kernel_rfl
theorem proofSound_laidOut : laidOutB Try.prog = true := by kernel_rfl
theorem proofSound_reads {l : List AV} (h : Reads [.st [.int .i64, .sl (.sl (.int .i64))], .sl (.st [.int .i64, .int .i64, .int .i64]), .sl .bool] l) : G extP 4 l [] = some (.ret (.d (.bool true)), []) := by
  obtain ⟨x0, l0, h0, rfl, x1, l1, h1, rfl, x2, l2, h2, rfl, rfl⟩ := h
  obtain ⟨f, e0⟩ := fm_arg h0
  obtain ⟨ls, e1⟩ := steps_arg h1
  obtain ⟨m, e2⟩ := model_arg h2
  rw [e0, e1, e2]
  exact soundL16_e extP_txp f ls m
set_option maxRecDepth 100000 in
theorem proofSound_lifted (os : Os) (started : os.Started) (H : Type) (enc : TypeId × Value → H) :
    ReturnsInHanded {} Try.checked os 4 .any (Rows.proofSoundSpec.pre6 enc Try.prog Try.f4 Rows.proofSoundRow.domain false) (Rows.proofSoundSpec.post enc Try.prog Try.f4 false true false false) := by
  refine returnsInHanded_of_change (C := Try.checked) proofSound_own started (by kernel_rfl) Try.func4
    (ChangeSpec.witness6 (enc := enc) (C := Try.checked) false ⟨#[], #[.agg ⟨[.int .i64 0, .slice none 0 0]⟩, .slice none 0 0, .slice none 0 0], []⟩ 8 (by kernel_rfl) (by kernel_rfl) (by kernel_rfl) (by kernel_rfl)) ?_
  intro W base args ds gs before hval hW _ _
  refine law_contract proofSound_laidOut (G_ok extP_ok) (Ts := [.st [.int .i64, .sl (.sl (.int .i64))], .sl (.st [.int .i64, .int .i64, .int .i64]), .sl .bool]) (by rw [Try.params4]; kernel_rfl) rfl ?_ (by kernel_rfl) Try.underlying4 (by rw [Try.params4]; decide +kernel) (fun l hl => proofSound_reads hl) W base args ds gs before hval hW
  intro ds hl
  match ds, hl with
  | [d0, d1, d2], _ => exact ⟨rfl, rfl, rfl⟩
theorem proofSound_holds : Rows.ProofSoundSaid :=
  OpenClaim.holds_of_wide 4 Try.f4 rfl rfl rfl rfl rfl rfl rfl ⟨rfl, rfl, rfl, rfl, rfl⟩ rfl rfl rfl rfl rfl (by kernel_rfl) Try.func4 (by kernel_rfl)
    (of_decide_eq_true (by kernel_rfl)) (by unfold Func.isWrapper; first | (rw [if_pos (by decide +kernel)]; kernel_rfl) | (rw [if_neg (by decide +kernel)]; exact ⟨rfl, rfl⟩))
    (fun os started H enc _ => proofSound_lifted os started H enc)
end Go.Proofs.Ytchedkjlhjfadaa
