/- SolveModels answers true for every formula and all numbers, and leaves its arguments as they read. Conditions: none. -/
import Derived.Test.YtbeidiaejcbgoaaRows
import Derived.Test.YtbeidiaejcbgoaaLaw15Models
import Derived.Test.YtbeidiaejcbgoaaLawKit
namespace Go.Proofs.Ytbeidiaejcbgoaa
open Go.ChangeShapes Go.WideShapes Go.ChangeAt Go.RowKit Go.Deep Go.Joins

theorem Try.own : ownKnob Try.prog.godebug = none := by kernel_rfl
theorem Try.laidOut : laidOutB Try.prog = true := by kernel_rfl

theorem solveModels_call (n : Int) (Lv : Value) (ls : List (List Int)) (stop most : Int) (w : World) (hl : IntRows (fun k => k < w.heap.size) w Lv ls) (hs : InI64 stop) :
    Calls Try.prog 4 #[.agg #[.int .i64 n, Lv], .int .i64 stop, .int .i64 most] w fun e w' => e = .returned (.bool true) ∧ Chg (fun _ => False) w w' := by
  obtain ⟨la, lcap, rfl, h1, h2, _⟩ := hl.open
  exact models_law n la lcap ls stop most _ w hl (fun k hk => hk) (by unfold InI64 at hs; omega)

set_option maxRecDepth 100000 in
theorem solveModels_lifted (os : Os) (started : os.Started) (H : Type) (enc : TypeId × Value → H) :
    ReturnsInHanded {} Try.checked os 4 .any (Rows.solveModelsSpec.pre6 enc Try.prog Try.f4 Rows.solveModelsRow.domain false) (Rows.solveModelsSpec.post enc Try.prog Try.f4 false true false false) := by
  refine returnsInHanded_of_change (C := Try.checked) Try.own started (by kernel_rfl) Try.func4
    (ChangeSpec.witness6 (enc := enc) (C := Try.checked) false ⟨#[], #[.agg #[.int .i64 0, .slice none 0 0], .int .i64 0, .int .i64 0], []⟩ 8 (by kernel_rfl) (by kernel_rfl) (by kernel_rfl) (by kernel_rfl)) ?_
  intro W base args ds gs before hval0 hW hcnd _
  have hval : ∀ (j : Nat) t v, Try.f4.params[j]? = some t → args[j]? = some v → Value.okWide Try.prog W .any base t v := hval0
  have hW' := hW
  obtain ⟨p, q, hA0, hV, rfl, hfz, hnd⟩ := hW
  have hA : DataW.TrodAll enc Try.prog W 0 (fun _ => true) true Try.f4.params.toList args.toList ds p := hA0
  rw [Try.params4] at hA hval
  obtain ⟨v0, v1, v2, d0, d1, d2, p0, p1, p2, rfl, rfl, rfl, h0, h1, h2⟩ := trodAll_three hA
  obtain ⟨rfl, rfl⟩ := trodVars_none hV
  obtain ⟨n0, l0, y0, y1, fu, rfl, rfl, rfl, hy0, hy1⟩ := open_agg2 Try.underlying24 (by kernel_rfl) (by kernel_rfl) (hval 0 24 v0 rfl rfl) h0
  obtain ⟨nn, e0, rfl, wn⟩ := DataW.trod_int Try.underlying3 hy0
  cases e0
  obtain ⟨ls, hls, _⟩ := rows_of_trod Try.underlying22 Try.underlying41 Try.underlying3 (by kernel_rfl) (by kernel_rfl) hy1
  obtain ⟨n1, rfl, rfl, rfl, hw1⟩ := open_int Try.underlying3 (hval 1 3 v1 rfl rfl) h1
  obtain ⟨n2, rfl, rfl, rfl, hw2⟩ := open_int Try.underlying3 (hval 2 3 v2 rfl rfl) h2
  clear hA0 hval0
  refine (solveModels_call nn l0 ls n1 n2 W hls (inI64_of_wf hw1)).mono fun e W' ⟨he, hc⟩ => ?_
  subst he
  exact ⟨_, rfl, law_post Try.laidOut hW' rfl ⟨rfl, rfl, rfl⟩ (by kernel_rfl) Try.underlying4 (by rw [Try.params4]; decide +kernel) hc.below0⟩

theorem solveModels_holds : Rows.SolveModelsSaid :=
  OpenClaim.holds_of_wide 4 Try.f4 rfl rfl rfl rfl rfl rfl rfl ⟨rfl, rfl, rfl, rfl, rfl⟩ rfl rfl rfl rfl rfl (by kernel_rfl) Try.func4 (by kernel_rfl)
    (of_decide_eq_true (by kernel_rfl)) (by unfold Func.isWrapper; first | (rw [if_pos (by decide +kernel)]; kernel_rfl) | (rw [if_neg (by decide +kernel)]; exact ⟨rfl, rfl⟩))
    (fun os started H enc _ => solveModels_lifted os started H enc)
end Go.Proofs.Ytbeidiaejcbgoaa
