/- BltypeUses answers true for all arguments, and leaves them as they read. Conditions: none. -/
import Derived.Test.YticenbkhlifioaaGreatRows
import Derived.Test.YticenbkhlifioaaGreatU2
import Derived.Test.YticenbkhlifioaaGreatExtM
import Derived.Test.YticenbkhlifioaaGreatMod
import Derived.Test.YticenbkhlifioaaGreatAbX4
namespace Go.Proofs.YticenbkhlifioaaGreat
open Go Go.Ab Go.ChangeShapes Go.WideShapes Go.ChangeAt Go.RowKit
theorem bltypeUses_own : ownKnob Tryz.prog.godebug = none := by kernel_rfl
theorem bltypeUses_laidOut : laidOutB Tryz.prog = true := by kernel_rfl
theorem bltypeUses_reads {l : List AV} (h : Reads [modT, .int .i64, .int .i64, .int .i64, .int .i64] l) : G extM 3 l [] = some (.ret (.d (.bool true)), []) := by
  obtain ⟨x0, l0, h0, rfl, x1, l1, h1, rfl, x2, l2, h2, rfl, x3, l3, h3, rfl, x4, l4, h4, rfl, rfl⟩ := h
  obtain ⟨m, e, hm⟩ := mod_wf h0
  obtain ⟨n1, e1, _⟩ := int_arg h1
  obtain ⟨n2, e2, _⟩ := int_arg h2
  obtain ⟨n3, e3, _⟩ := int_arg h3
  obtain ⟨n4, e4, _⟩ := int_arg h4
  rw [e, e1, e2, e3, e4]
  exact usesL_e extM_tm m n1 n2 n3 n4 hm.names
set_option maxRecDepth 100000 in
theorem bltypeUses_lifted (os : Os) (started : os.Started) (H : Type) (enc : TypeId × Value → H) :
    ReturnsInHanded {} Tryz.checked os 3 .any (Rows.bltypeUsesSpec.pre6 enc Tryz.prog Tryz.f3 Rows.bltypeUsesRow.domain false) (Rows.bltypeUsesSpec.post enc Tryz.prog Tryz.f3 false true false false) := by
  refine returnsInHanded_of_change (C := Tryz.checked) bltypeUses_own started (by kernel_rfl) Tryz.func3
    (ChangeSpec.witness6 (enc := enc) (C := Tryz.checked) false ⟨#[], #[.agg ⟨[.slice none 0 0, .slice none 0 0]⟩, .int .i64 0, .int .i64 0, .int .i64 0, .int .i64 0], []⟩ 8 (by kernel_rfl) (by kernel_rfl) (by kernel_rfl) (by kernel_rfl)) ?_
  intro W base args ds gs before hval hW _ _
  refine law_contract bltypeUses_laidOut (G_ok extM_ok) (Ts := [modT, .int .i64, .int .i64, .int .i64, .int .i64]) (by rw [Tryz.params3]; kernel_rfl) rfl ?_ (by kernel_rfl) Tryz.underlying4 (by rw [Tryz.params3]; decide +kernel) (fun l hl => bltypeUses_reads hl) W base args ds gs before hval hW
  intro ds hl
  match ds, hl with
  | [d0, d1, d2, d3, d4], _ => exact ⟨rfl, rfl, rfl⟩
theorem bltypeUses_holds : Rows.BltypeUsesSaid :=
  OpenClaim.holds_of_wide 3 Tryz.f3 rfl rfl rfl rfl rfl rfl rfl ⟨rfl, rfl, rfl, rfl, rfl⟩ rfl rfl rfl rfl rfl (by kernel_rfl) Tryz.func3 (by kernel_rfl)
    (of_decide_eq_true (by kernel_rfl)) (by unfold Func.isWrapper; first | (rw [if_pos (by decide +kernel)]; kernel_rfl) | (rw [if_neg (by decide +kernel)]; exact ⟨rfl, rfl⟩))
    (fun os started H enc _ => bltypeUses_lifted os started H enc)
end Go.Proofs.YticenbkhlifioaaGreat
