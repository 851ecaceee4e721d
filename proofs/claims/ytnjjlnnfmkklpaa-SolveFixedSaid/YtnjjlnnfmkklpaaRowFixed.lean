/- SolveFixed answers true for all arguments, and leaves them as they read. Conditions: none. -/
import Derived.Test.YtnjjlnnfmkklpaaRows
import Derived.Test.YtnjjlnnfmkklpaaS13
import Derived.Test.YtnjjlnnfmkklpaaExtC3
import Derived.Test.YtnjjlnnfmkklpaaModC
import Derived.Test.YtnjjlnnfmkklpaaAbX4
namespace Go.Proofs.Ytnjjlnnfmkklpaa
open Go Go.Ab Go.ChangeShapes Go.WideShapes Go.ChangeAt Go.RowKit
theorem solveFixed_own : ownKnob Try.prog.godebug = none := by kernel_rfl
theorem solveFixed_laidOut : laidOutB Try.prog = true := by kernel_rfl
theorem solveFixed_reads {l : List AV} (h : Reads [.st [.int .i64, .sl (.sl (.int .i64))], .sl (.int .i64)] l) : G extC 7 l [] = some (.ret (.d (.bool true)), []) := by
  obtain ⟨x0, l0, h0, rfl, x1, l1, h1, rfl, rfl⟩ := h
  obtain ⟨f, e0⟩ := fm_arg h0
  obtain ⟨c, e1⟩ := clause_arg h1
  rw [e0, e1]
  exact fixedL_e extC_tx f c
set_option maxRecDepth 100000 in
theorem solveFixed_lifted (os : Os) (started : os.Started) (H : Type) (enc : TypeId × Value → H) :
    ReturnsInHanded {} Try.checked os 7 .any (Rows.solveFixedSpec.pre6 enc Try.prog Try.f7 Rows.solveFixedRow.domain false) (Rows.solveFixedSpec.post enc Try.prog Try.f7 false true false false) := by
  refine returnsInHanded_of_change (C := Try.checked) solveFixed_own started (by kernel_rfl) Try.func7
    (ChangeSpec.witness6 (enc := enc) (C := Try.checked) false ⟨#[], #[.agg ⟨[.int .i64 0, .slice none 0 0]⟩, .slice none 0 0], []⟩ 8 (by kernel_rfl) (by kernel_rfl) (by kernel_rfl) (by kernel_rfl)) ?_
  intro W base args ds gs before hval hW _ _
  refine law_contract solveFixed_laidOut (G_ok extC_ok) (Ts := [.st [.int .i64, .sl (.sl (.int .i64))], .sl (.int .i64)]) (by rw [Try.params7]; kernel_rfl) rfl ?_ (by kernel_rfl) Try.underlying4 (by rw [Try.params7]; decide +kernel) (fun l hl => solveFixed_reads hl) W base args ds gs before hval hW
  intro ds hl
  match ds, hl with
  | [d0, d1], _ => exact ⟨rfl, rfl, rfl⟩
theorem solveFixed_holds : Rows.SolveFixedSaid :=
  OpenClaim.holds_of_wide 7 Try.f7 rfl rfl rfl rfl rfl rfl rfl ⟨rfl, rfl, rfl, rfl, rfl⟩ rfl rfl rfl rfl rfl (by kernel_rfl) Try.func7 (by kernel_rfl)
    (of_decide_eq_true (by kernel_rfl)) (by unfold Func.isWrapper; first | (rw [if_pos (by decide +kernel)]; kernel_rfl) | (rw [if_neg (by decide +kernel)]; exact ⟨rfl, rfl⟩))
    (fun os started H enc _ => solveFixed_lifted os started H enc)
end Go.Proofs.Ytnjjlnnfmkklpaa
