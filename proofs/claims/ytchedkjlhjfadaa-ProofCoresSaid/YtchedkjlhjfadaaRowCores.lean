/- ProofCores answers true for all arguments, and leaves them as they read. Conditions: none. -/
import Derived.Test.YtchedkjlhjfadaaRows
import Derived.Test.YtchedkjlhjfadaaQ24
import Derived.Test.YtchedkjlhjfadaaExtP
import Derived.Test.YtchedkjlhjfadaaModP
import Derived.Test.YtchedkjlhjfadaaAbX4
namespace Go.Proofs.Ytchedkjlhjfadaa
open Go Go.Ab Go.ChangeShapes Go.WideShapes Go.ChangeAt Go.RowKit
theorem proofCores_own : ownKnob Try.prog.godebug = none := by kernel_rfl
theorem proofCores_laidOut : laidOutB Try.prog = true := by kernel_rfl
theorem proofCores_reads {l : List AV} (h : Reads [.st [.int .i64, .sl (.sl (.int .i64))]] l) : G extP 5 l [] = some (.ret (.d (.bool true)), []) := by
  obtain ⟨x0, l0, h0, rfl, rfl⟩ := h
  obtain ⟨f, e0⟩ := fm_arg h0
  rw [e0]
  exact coresL_e extP_txp f
set_option maxRecDepth 100000 in
theorem proofCores_lifted (os : Os) (started : os.Started) (H : Type) (enc : TypeId × Value → H) :
    ReturnsInHanded {} Try.checked os 5 .any (Rows.proofCoresSpec.pre6 enc Try.prog Try.f5 Rows.proofCoresRow.domain false) (Rows.proofCoresSpec.post enc Try.prog Try.f5 false true false false) := by
  refine returnsInHanded_of_change (C := Try.checked) proofCores_own started (by kernel_rfl) Try.func5
    (ChangeSpec.witness6 (enc := enc) (C := Try.checked) false ⟨#[], #[.agg ⟨[.int .i64 0, .slice none 0 0]⟩], []⟩ 8 (by kernel_rfl) (by kernel_rfl) (by kernel_rfl) (by kernel_rfl)) ?_
  intro W base args ds gs before hval hW _ _
  refine law_contract proofCores_laidOut (G_ok extP_ok) (Ts := [.st [.int .i64, .sl (.sl (.int .i64))]]) (by rw [Try.params5]; kernel_rfl) rfl ?_ (by kernel_rfl) Try.underlying4 (by rw [Try.params5]; decide +kernel) (fun l hl => proofCores_reads hl) W base args ds gs before hval hW
  intro ds hl
  match ds, hl with
  | [d0], _ => exact ⟨rfl, rfl, rfl⟩
theorem proofCores_holds : Rows.ProofCoresSaid :=
  OpenClaim.holds_of_wide 5 Try.f5 rfl rfl rfl rfl rfl rfl rfl ⟨rfl, rfl, rfl, rfl, rfl⟩ rfl rfl rfl rfl rfl (by kernel_rfl) Try.func5 (by kernel_rfl)
    (of_decide_eq_true (by kernel_rfl)) (by unfold Func.isWrapper; first | (rw [if_pos (by decide +kernel)]; kernel_rfl) | (rw [if_neg (by decide +kernel)]; exact ⟨rfl, rfl⟩))
    (fun os started H enc _ => proofCores_lifted os started H enc)
end Go.Proofs.Ytchedkjlhjfadaa
