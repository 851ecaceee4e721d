/- CnfBuilds answers true for all arguments, and leaves them as they read. Conditions: none. -/
import Derived.Test.YtdmambkajegldaaRows
import Derived.Test.YtdmambkajegldaaC14
import Derived.Test.YtdmambkajegldaaExtC3
import Derived.Test.YtdmambkajegldaaModC
import Derived.Test.YtdmambkajegldaaAbX4
namespace Go.Proofs.Ytdmambkajegldaa
open Go Go.Ab Go.ChangeShapes Go.WideShapes Go.ChangeAt Go.RowKit
theorem bd_wf {xs : List Dt} (h : WfD (.st [.int .i64, .int .i64, .int .i64, .sl (.int .i64), .sl (.int .i64)]) xs) : ∃ o : Bd1, xs = o.row ∧ True := by
  obtain ⟨_, _, rfl, h1, h⟩ := st1 h
  obtain ⟨_, _, rfl, h2, h⟩ := st1 h
  obtain ⟨_, _, rfl, h3, h⟩ := st1 h
  obtain ⟨_, _, rfl, h4, h⟩ := st1 h
  obtain ⟨_, _, rfl, h5, h⟩ := st1 h
  obtain rfl := st0 h
  obtain ⟨k, rfl, _⟩ := int_wf h1
  obtain ⟨x, rfl, _⟩ := int_wf h2
  obtain ⟨y, rfl, _⟩ := int_wf h3
  obtain ⟨a, rfl, _, _⟩ := sl_of (f := rowI) (fun _ h => int_wf h) h4
  obtain ⟨b, rfl, _, _⟩ := sl_of (f := rowI) (fun _ h => int_wf h) h5
  exact ⟨⟨k, x, y, a, b⟩, rfl, trivial⟩
theorem builds_arg {xs : List Dt} (h : WfD (.sl (.st [.int .i64, .int .i64, .int .i64, .sl (.int .i64), .sl (.int .i64)])) xs) : ∃ l : List Bd1, argOf (.sl (.st [.int .i64, .int .i64, .int .i64, .sl (.int .i64), .sl (.int .i64)])) xs = .d (.sl (l.map Bd1.row)) := by
  obtain ⟨l, rfl, _, _⟩ := sl_of (f := Bd1.row) (fun _ h => bd_wf h) h
  exact ⟨l, rfl⟩
theorem cnfBuilds_own : ownKnob Try.prog.godebug = none := by kernel_rfl
theorem cnfBuilds_laidOut : laidOutB Try.prog = true := by kernel_rfl
theorem cnfBuilds_reads {l : List AV} (h : Reads [.sl (.st [.int .i64, .int .i64, .int .i64, .sl (.int .i64), .sl (.int .i64)])] l) : G extC 4 l [] = some (.ret (.d (.bool true)), []) := by
  obtain ⟨xs, l1, h1, rfl, rfl⟩ := h
  obtain ⟨l, e1⟩ := builds_arg h1
  rw [e1]
  exact buildsL_e extC_tx l
set_option maxRecDepth 100000 in
theorem cnfBuilds_lifted (os : Os) (started : os.Started) (H : Type) (enc : TypeId × Value → H) :
    ReturnsInHanded {} Try.checked os 4 .any (Rows.cnfBuildsSpec.pre6 enc Try.prog Try.f4 Rows.cnfBuildsRow.domain false) (Rows.cnfBuildsSpec.post enc Try.prog Try.f4 false true false false) := by
  refine returnsInHanded_of_change (C := Try.checked) cnfBuilds_own started (by kernel_rfl) Try.func4
    (ChangeSpec.witness6 (enc := enc) (C := Try.checked) false ⟨#[], #[.slice none 0 0], []⟩ 8 (by kernel_rfl) (by kernel_rfl) (by kernel_rfl) (by kernel_rfl)) ?_
  intro W base args ds gs before hval hW _ _
  refine law_contract cnfBuilds_laidOut (G_ok extC_ok) (Ts := [.sl (.st [.int .i64, .int .i64, .int .i64, .sl (.int .i64), .sl (.int .i64)])]) (by rw [Try.params4]; kernel_rfl) rfl ?_ (by kernel_rfl) Try.underlying4 (by rw [Try.params4]; decide +kernel) (fun l hl => cnfBuilds_reads hl) W base args ds gs before hval hW
  intro ds hl
  match ds, hl with
  | [d0], _ => exact ⟨rfl, rfl, rfl⟩
theorem cnfBuilds_holds : Rows.CnfBuildsSaid :=
  OpenClaim.holds_of_wide 4 Try.f4 rfl rfl rfl rfl rfl rfl rfl ⟨rfl, rfl, rfl, rfl, rfl⟩ rfl rfl rfl rfl rfl (by kernel_rfl) Try.func4 (by kernel_rfl)
    (of_decide_eq_true (by kernel_rfl)) (by unfold Func.isWrapper; first | (rw [if_pos (by decide +kernel)]; kernel_rfl) | (rw [if_neg (by decide +kernel)]; exact ⟨rfl, rfl⟩))
    (fun os started H enc _ => cnfBuilds_lifted os started H enc)
end Go.Proofs.Ytdmambkajegldaa
