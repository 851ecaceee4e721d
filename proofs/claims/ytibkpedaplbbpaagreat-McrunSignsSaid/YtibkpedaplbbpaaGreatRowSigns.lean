/- McrunSigns answers true for all arguments, and leaves them as they read. Conditions: none. -/
import Derived.Test.YtibkpedaplbbpaaGreatRows
import Derived.Test.YtibkpedaplbbpaaGreatSgB
import Derived.Test.YtibkpedaplbbpaaGreatExtG
import Derived.Test.YtibkpedaplbbpaaGreatAbX4
namespace Go.Proofs.YtibkpedaplbbpaaGreat
open Go Go.Ab Go.ChangeShapes Go.WideShapes Go.ChangeAt Go.RowKit
theorem mcrunSigns_own : ownKnob Tryz.prog.godebug = none := by kernel_rfl
theorem mcrunSigns_laidOut : laidOutB Tryz.prog = true := by kernel_rfl
theorem mcrunSigns_reads {l : List AV} (h : Reads [.str, .int .i64, .int .i64, .int .i64] l) : G extG 3 l [] = some (.ret (.d (.bool true)), []) := by
  obtain ⟨x0, l0, h0, rfl, x1, l1, h1, rfl, x2, l2, h2, rfl, x3, l3, h3, rfl, rfl⟩ := h
  obtain ⟨s, e0⟩ := str_arg h0
  obtain ⟨n1, e1⟩ := int_arg h1
  obtain ⟨n2, e2⟩ := int_arg h2
  obtain ⟨n3, e3⟩ := int_arg h3
  rw [e0, e1, e2, e3]
  exact signs_e extG_tg s n1 n2 n3
set_option maxRecDepth 100000 in
theorem mcrunSigns_lifted (os : Os) (started : os.Started) (H : Type) (enc : TypeId × Value → H) :
    ReturnsInHanded {} Tryz.checked os 3 .any (Rows.mcrunSignsSpec.pre6 enc Tryz.prog Tryz.f3 Rows.mcrunSignsRow.domain false) (Rows.mcrunSignsSpec.post enc Tryz.prog Tryz.f3 false true false false) := by
  refine returnsInHanded_of_change (C := Tryz.checked) mcrunSigns_own started (by kernel_rfl) Tryz.func3
    (ChangeSpec.witness6 (enc := enc) (C := Tryz.checked) false ⟨#[], #[.string ⟨⟨[]⟩⟩, .int .i64 0, .int .i64 0, .int .i64 0], []⟩ 8 (by kernel_rfl) (by kernel_rfl) (by kernel_rfl) (by kernel_rfl)) ?_
  intro W base args ds gs before hval hW _ _
  refine law_contract mcrunSigns_laidOut (G_ok extG_ok) (Ts := [.str, .int .i64, .int .i64, .int .i64]) (by rw [Tryz.params3]; kernel_rfl) rfl ?_ (by kernel_rfl) Tryz.underlying4 (by rw [Tryz.params3]; decide +kernel) (fun l hl => mcrunSigns_reads hl) W base args ds gs before hval hW
  intro ds hl
  match ds, hl with
  | [d0, d1, d2, d3], _ => exact ⟨rfl, rfl, rfl⟩
theorem mcrunSigns_holds : Rows.McrunSignsSaid :=
  OpenClaim.holds_of_wide 3 Tryz.f3 rfl rfl rfl rfl rfl rfl rfl ⟨rfl, rfl, rfl, rfl, rfl⟩ rfl rfl rfl rfl rfl (by kernel_rfl) Tryz.func3 (by kernel_rfl)
    (of_decide_eq_true (by kernel_rfl)) (by unfold Func.isWrapper; first | (rw [if_pos (by decide +kernel)]; kernel_rfl) | (rw [if_neg (by decide +kernel)]; exact ⟨rfl, rfl⟩))
    (fun os started H enc _ => mcrunSigns_lifted os started H enc)
end Go.Proofs.YtibkpedaplbbpaaGreat
