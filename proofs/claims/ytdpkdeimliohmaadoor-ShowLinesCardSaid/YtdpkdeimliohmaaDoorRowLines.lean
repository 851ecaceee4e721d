/- ShowLines answers true for all arguments, and leaves them as they read, where the library's tables hold what the program's text lays. Conditions: none. -/
import Derived.Test.YtdpkdeimliohmaaDoorTie
import Derived.Test.YtdpkdeimliohmaaDoorCards
import Derived.Test.YtdpkdeimliohmaaDoorCardKit
import Derived.Test.YtdpkdeimliohmaaDoorExtW
import Derived.Test.YtdpkdeimliohmaaDoorK15
import Derived.LaidMore
import Derived.OpenShut
import Derived.Stop.Joined
namespace Go.Proofs.YtdpkdeimliohmaaDoor
open Go Go.Ab Go.ChangeShapes Go.WideShapes Go.ChangeAt Go.RowKit
theorem showLines_own : ownKnob Tryd.prog.godebug = none := by kernel_rfl
theorem showLines_laidOut : laidOutB Tryd.prog = true := by kernel_rfl
theorem showLines_reads {l : List AV} (h : Reads [.str, .int .i64] l) : G extW 4 l [] = some (.ret (.d (.bool true)), []) := by
  obtain ⟨x0, l0, h0, rfl, x1, l1, h1, rfl, rfl⟩ := h
  obtain ⟨s, e0⟩ := str_arg h0
  obtain ⟨n, e1⟩ := num_arg h1
  rw [e0, e1]
  exact slines_e extW_t3 s n
theorem showLines_met (os : Os) (args : Array Value) : laidMetH Tryd.prog Rows.showLinesRow.laid ((World.doorLaid Tryd.prog 24 os).forCall (fun _ _ => 0) ⟨#[], args, []⟩).memory :=
  laidMetH_of_parts3 (fuel := 8) (laidMet_of_run' 8 (by kernel_rfl) (by kernel_rfl)) (by kernel_rfl) (by kernel_rfl)
theorem showLines_tabEq : (Rows.laid_internal_strconv_uint64pow10 : DataW Unit) = Lib.tabData .u64 Lib.pow10Tab := by kernel_rfl
theorem showLines_tab : ("internal/strconv.uint64pow10", Lib.tabData .u64 Lib.pow10Tab) ∈ (Rows.showLinesRow.laid : List (String × DataW Unit)) := by
  rw [← showLines_tabEq]
  exact List.mem_iff_getElem?.2 (by first | exact ⟨0, rfl⟩ | exact ⟨1, rfl⟩ | exact ⟨2, rfl⟩ | exact ⟨3, rfl⟩ | exact ⟨4, rfl⟩ | exact ⟨5, rfl⟩)
set_option maxRecDepth 100000 in
theorem showLines_lifted (os : Os) (started : os.Started) (H : Type) (enc : TypeId × Value → H) :
    ReturnsInHanded {} Tryd.checked os 4 .any (fun w args => (Rows.showLinesSpec.pre enc Tryd.prog Tryd.f4 [] false w args ∧ laidMetH Tryd.prog Rows.showLinesRow.laid w) ∧ sizedMet enc Tryd.prog Tryd.f4 (OpenSpec.ofChange Rows.showLinesSpec) false w args) (Rows.showLinesSpec.post enc Tryd.prog Tryd.f4 false true false false) := by
  refine returnsInHanded_of_change_and (C := Tryd.checked) (X := fun w _ => laidMetH Tryd.prog Rows.showLinesRow.laid w) (fun _ _ _ hh h => h.of_heap hh) showLines_own started (by kernel_rfl) Tryd.func4
    (ChangeSpec.witness_shaped (enc := enc) (C := Tryd.checked) (os := os) (X := fun w _ => laidMetH Tryd.prog Rows.showLinesRow.laid w) false (World.doorLaid Tryd.prog 24 os) #[.string ⟨#[]⟩, .int .i64 0] 8 rfl (World.shaped_of_RefB (by kernel_rfl) (by kernel_rfl)) (by kernel_rfl) (by kernel_rfl) (by kernel_rfl) (showLines_met os _)) ?_
  intro W base args ds gs before hval hW _ _ hL _
  refine law_contract showLines_laidOut (G_ok extW_ok) (Ts := [.str, .int .i64]) (by rw [Tryd.params4]; kernel_rfl) rfl ?_ (by kernel_rfl) Tryd.underlying4 (by rw [Tryd.params4]; decide +kernel) (fun l hl => showLines_reads hl) W base args ds gs before hval hW (tabs_ok hL (by kernel_rfl) showLines_tab)
  intro ds hl
  match ds, hl with
  | [d0, d1], _ => exact ⟨rfl, rfl, rfl⟩
theorem showLines_row_holds : Rows.ShowLinesSaid :=
  OpenClaim.holds_of_wide 4 Tryd.f4 rfl rfl rfl rfl rfl rfl rfl ⟨rfl, rfl, rfl, rfl, rfl⟩ rfl rfl rfl rfl rfl (by kernel_rfl) Tryd.func4 (by kernel_rfl)
    (of_decide_eq_true (by kernel_rfl)) (by unfold Func.isWrapper; first | (rw [if_pos (by decide +kernel)]; kernel_rfl) | (rw [if_neg (by decide +kernel)]; exact ⟨rfl, rfl⟩))
    (fun os started H enc _ => showLines_lifted os started H enc)
theorem showLines_holds : Rows.ShowLinesCardSaid :=
  Claim7.holds_tied_plain_at .later [] Rows.showLinesCard.laidKinds true Rows.showLinesCard.stood.harness Rows.showLinesCard.stood.looks
    showLines_row_holds (fun _ h => by cases h) (by kernel_rfl) (fun _ h => by cases h) showLines_row_tie rfl ⟨rfl, rfl⟩ (by kernel_rfl) rfl
    (fun f fn hf hfn => by
      obtain rfl : f = 4 := Option.some.inj ((show Tryd.prog.funcNamed Rows.showLinesRow.func = some 4 by kernel_rfl).symm.trans hf) |>.symm
      obtain rfl : fn = Tryd.f4 := (Option.some.inj (Tryd.func4.symm.trans hfn)).symm
      refine ⟨by kernel_rfl, fun j t ht => ?_⟩
      have hall : ∀ t ∈ Tryd.f4.params.toList, Tryd.prog.wantsStandIn t = false := by
        rw [Tryd.params4]
        decide +kernel
      exact hall t (Array.mem_toList_iff.2 (Array.mem_of_getElem? ht)))
    (by kernel_rfl)
end Go.Proofs.YtdpkdeimliohmaaDoor
