/- NamesFinds answers true for all arguments, and leaves them as they read. Conditions: none. -/
import Derived.Test.YthfollapianblaaRows
import Derived.Test.YthfollapianblaaExtN
import Derived.Test.YthfollapianblaaAbX4
namespace Go.Proofs.Ythfollapianblaa
open Go Go.Ab Go.ChangeShapes Go.WideShapes Go.ChangeAt Go.RowKit
theorem namesFinds_own : ownKnob Try.prog.godebug = none := by kernel_rfl
theorem namesFinds_laidOut : laidOutB Try.prog = true := by kernel_rfl
theorem namesFinds_reads {l : List AV} (h : Reads [.str, .str, .str, .st [.bool, .str], .st [.bool, .str]] l) : G extN 4 l [] = some (.ret (.d (.bool true)), []) := by
  obtain ⟨x0, l0, h0, rfl, x1, l1, h1, rfl, x2, l2, h2, rfl, x3, l3, h3, rfl, x4, l4, h4, rfl, rfl⟩ := h
  obtain ⟨s, e0⟩ := str_arg h0
  obtain ⟨n1, e1⟩ := str_arg h1
  obtain ⟨n2, e2⟩ := str_arg h2
  obtain ⟨a, e3⟩ := tp_arg h3
  obtain ⟨b, e4⟩ := tp_arg h4
  rw [e0, e1, e2, e3, e4]
  exact findsL_e extN_t4 s n1 n2 a b
set_option maxRecDepth 100000 in
theorem namesFinds_lifted (os : Os) (started : os.Started) (H : Type) (enc : TypeId × Value → H) :
    ReturnsInHanded {} Try.checked os 4 .any (Rows.namesFindsSpec.pre6 enc Try.prog Try.f4 Rows.namesFindsRow.domain false) (Rows.namesFindsSpec.post enc Try.prog Try.f4 false true false false) := by
  refine returnsInHanded_of_change (C := Try.checked) namesFinds_own started (by kernel_rfl) Try.func4
    (ChangeSpec.witness6 (enc := enc) (C := Try.checked) false ⟨#[], #[.string ⟨#[]⟩, .string ⟨#[]⟩, .string ⟨#[]⟩, .agg ⟨[.bool false, .string ⟨#[]⟩]⟩, .agg ⟨[.bool false, .string ⟨#[]⟩]⟩], []⟩ 8 (by kernel_rfl) (by kernel_rfl) (by kernel_rfl) (by kernel_rfl)) ?_
  intro W base args ds gs before hval hW _ _
  refine law_contract namesFinds_laidOut (G_ok extN_ok) (Ts := [.str, .str, .str, .st [.bool, .str], .st [.bool, .str]]) (by rw [Try.params4]; kernel_rfl) rfl ?_ (by kernel_rfl) Try.underlying4 (by rw [Try.params4]; decide +kernel) (fun l hl => namesFinds_reads hl) W base args ds gs before hval hW
  intro ds hl
  match ds, hl with
  | [d0, d1, d2, d3, d4], _ => exact ⟨rfl, rfl, rfl⟩
theorem namesFinds_holds : Rows.NamesFindsSaid :=
  OpenClaim.holds_of_wide 4 Try.f4 rfl rfl rfl rfl rfl rfl rfl ⟨rfl, rfl, rfl, rfl, rfl⟩ rfl rfl rfl rfl rfl (by kernel_rfl) Try.func4 (by kernel_rfl)
    (of_decide_eq_true (by kernel_rfl)) (by unfold Func.isWrapper; first | (rw [if_pos (by decide +kernel)]; kernel_rfl) | (rw [if_neg (by decide +kernel)]; exact ⟨rfl, rfl⟩))
    (fun os started H enc _ => namesFinds_lifted os started H enc)
end Go.Proofs.Ythfollapianblaa
