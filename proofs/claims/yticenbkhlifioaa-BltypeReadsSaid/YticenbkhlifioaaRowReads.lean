/- BltypeReads answers true for all arguments, and leaves them as they read. Conditions: none. -/
import Derived.Test.YticenbkhlifioaaRows
import Derived.Test.YticenbkhlifioaaL4
import Derived.Test.YticenbkhlifioaaExtM
import Derived.Test.YticenbkhlifioaaMod
import Derived.Test.YticenbkhlifioaaAbX4
namespace Go.Proofs.Yticenbkhlifioaa
open Go Go.Ab Go.ChangeShapes Go.WideShapes Go.ChangeAt Go.RowKit
theorem bltypeReads_own : ownKnob Try.prog.godebug = none := by kernel_rfl
theorem bltypeReads_laidOut : laidOutB Try.prog = true := by kernel_rfl
theorem bltypeReads_reads {l : List AV} (h : Reads [modT, .int .i64] l) : G extM 4 l [] = some (.ret (.d (.bool true)), []) := by
  obtain ⟨xs, l1, h1, rfl, ys, l2, h2, rfl, rfl⟩ := h
  obtain ⟨m, e, hm⟩ := mod_wf h1
  obtain ⟨f, e2, _⟩ := int_arg h2
  rw [e, e2]
  exact readsL_e extM_tm m f hm.names
set_option maxRecDepth 100000 in
theorem bltypeReads_lifted (os : Os) (started : os.Started) (H : Type) (enc : TypeId × Value → H) :
    ReturnsInHanded {} Try.checked os 4 .any (Rows.bltypeReadsSpec.pre6 enc Try.prog Try.f4 Rows.bltypeReadsRow.domain false) (Rows.bltypeReadsSpec.post enc Try.prog Try.f4 false true false false) := by
  refine returnsInHanded_of_change (C := Try.checked) bltypeReads_own started (by kernel_rfl) Try.func4
    (ChangeSpec.witness6 (enc := enc) (C := Try.checked) false ⟨#[], #[.agg ⟨[.slice none 0 0, .slice none 0 0]⟩, .int .i64 0], []⟩ 8 (by kernel_rfl) (by kernel_rfl) (by kernel_rfl) (by kernel_rfl)) ?_
  intro W base args ds gs before hval hW _ _
  refine law_contract bltypeReads_laidOut (G_ok extM_ok) (Ts := [modT, .int .i64]) (by rw [Try.params4]; kernel_rfl) rfl ?_ (by kernel_rfl) Try.underlying4 (by rw [Try.params4]; decide +kernel) (fun l hl => bltypeReads_reads hl) W base args ds gs before hval hW
  intro ds hl
  match ds, hl with
  | [d0, d1], _ => exact ⟨rfl, rfl, rfl⟩
theorem bltypeReads_holds : Rows.BltypeReadsSaid :=
  OpenClaim.holds_of_wide 4 Try.f4 rfl rfl rfl rfl rfl rfl rfl ⟨rfl, rfl, rfl, rfl, rfl⟩ rfl rfl rfl rfl rfl (by kernel_rfl) Try.func4 (by kernel_rfl)
    (of_decide_eq_true (by kernel_rfl)) (by unfold Func.isWrapper; first | (rw [if_pos (by decide +kernel)]; kernel_rfl) | (rw [if_neg (by decide +kernel)]; exact ⟨rfl, rfl⟩))
    (fun os started H enc _ => bltypeReads_lifted os started H enc)
end Go.Proofs.Yticenbkhlifioaa
