/- ProofRefutes answers true for all arguments, and leaves them as they read. Conditions: none. -/
import Derived.Test.YtchedkjlhjfadaaRows
import Derived.Test.YtchedkjlhjfadaaQ23
import Derived.Test.YtchedkjlhjfadaaExtP
import Derived.Test.YtchedkjlhjfadaaModP
import Derived.Test.YtchedkjlhjfadaaAbX4
namespace Go.Proofs.Ytchedkjlhjfadaa
open Go Go.Ab Go.ChangeShapes Go.WideShapes Go.ChangeAt Go.RowKit
theorem proofRefutes_own : ownKnob Try.prog.godebug = none := by kernel_rfl
theorem proofRefutes_laidOut : laidOutB Try.prog = true := by kernel_rfl
theorem proofRefutes_reads {l : List AV} (h : Reads [.st [.int .i64, .sl (.sl (.int .i64))]] l) : G extP 3 l [] = some (.ret (.d (.bool true)), []) := by
  obtain ⟨x0, l0, h0, rfl, rfl⟩ := h
  obtain ⟨f, e0⟩ := fm_arg h0
  rw [e0]
  exact refutesL_e extP_txp f
set_option maxRecDepth 100000 in
theorem proofRefutes_lifted (os : Os) (started : os.Started) (H : Type) (enc : TypeId × Value → H) :
    ReturnsInHanded {} Try.checked os 3 .any (Rows.proofRefutesSpec.pre6 enc Try.prog Try.f3 Rows.proofRefutesRow.domain false) (Rows.proofRefutesSpec.post enc Try.prog Try.f3 false true false false) := by
  refine returnsInHanded_of_change (C := Try.checked) proofRefutes_own started (by kernel_rfl) Try.func3
    (ChangeSpec.witness6 (enc := enc) (C := Try.checked) false ⟨#[], #[.agg ⟨[.int .i64 0, .slice none 0 0]⟩], []⟩ 8 (by kernel_rfl) (by kernel_rfl) (by kernel_rfl) (by kernel_rfl)) ?_
  intro W base args ds gs before hval hW _ _
  refine law_contract proofRefutes_laidOut (G_ok extP_ok) (Ts := [.st [.int .i64, .sl (.sl (.int .i64))]]) (by rw [Try.params3]; kernel_rfl) rfl ?_ (by kernel_rfl) Try.underlying4 (by rw [Try.params3]; decide +kernel) (fun l hl => proofRefutes_reads hl) W base args ds gs before hval hW
  intro ds hl
  match ds, hl with
  | [d0], _ => exact ⟨rfl, rfl, rfl⟩
theorem proofRefutes_holds : Rows.ProofRefutesSaid :=
  OpenClaim.holds_of_wide 3 Try.f3 rfl rfl rfl rfl rfl rfl rfl ⟨rfl, rfl, rfl, rfl, rfl⟩ rfl rfl rfl rfl rfl (by kernel_rfl) Try.func3 (by kernel_rfl)
    (of_decide_eq_true (by kernel_rfl)) (by unfold Func.isWrapper; first | (rw [if_pos (by decide +kernel)]; kernel_rfl) | (rw [if_neg (by decide +kernel)]; exact ⟨rfl, rfl⟩))
    (fun os started H enc _ => proofRefutes_lifted os started H enc)
end Go.Proofs.Ytchedkjlhjfadaa
