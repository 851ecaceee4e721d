/- SolveSound answers true for every formula and every model, and leaves its arguments as they read. Conditions: none. -/
import Derived.Test.YtbeidiaejcbgoaaRows
import Derived.Test.YtbeidiaejcbgoaaLaw15Sound
import Derived.Test.YtbeidiaejcbgoaaLawKit
namespace Go.Proofs.Ytbeidiaejcbgoaa
open Go.ChangeShapes Go.WideShapes Go.ChangeAt Go.RowKit Go.Deep Go.Joins

theorem Try.own : ownKnob Try.prog.godebug = none := by kernel_rfl
theorem Try.laidOut : laidOutB Try.prog = true := by kernel_rfl

theorem solveSound_call (n : Int) (Lv : Value) (ls : List (List Int)) (mv : Value) (m : List Bool) (w : World) (hl : IntRows (fun k => k < w.heap.size) w Lv ls) (hm : Bools (fun k => k < w.heap.size) w mv m) (_hn : InI64 n) :
    Calls Try.prog 3 #[.agg #[.int .i64 n, Lv], mv] w fun e w' => e = .returned (.bool true) ∧ Chg (fun _ => False) w w' := by
  obtain ⟨la, lcap, rfl, h1, h2, _⟩ := hl.open
  obtain ⟨ma, mcap, rfl, h3, h4, _⟩ := hm.open
  by_cases hg : lightB ls = false ∨ 30 < n ∨ 60 < ls.length ∨ (m.length : Int) ≠ n ∨ rightB n ls = false
  · exact sound_early n la lcap ls ma mcap m _ w hl h2 hg
  · have a1 : lightB ls = true := by cases h : lightB ls; exact absurd (.inl h) hg; rfl
    have a2 : ¬ 30 < n := fun h => hg (.inr (.inl h))
    have a3 : ¬ 60 < ls.length := fun h => hg (.inr (.inr (.inl h)))
    have a4 : (m.length : Int) = n := by
      by_cases h : (m.length : Int) = n
      · exact h
      · exact absurd (.inr (.inr (.inr (.inl h)))) hg
    have a5 : rightB n ls = true := by cases h : rightB n ls; exact absurd (.inr (.inr (.inr (.inr h)))) hg; rfl
    subst a4
    exact sound_main m.length la lcap ls ma mcap m _ w hl hm (by omega) (fun k hk => hk) a1 (by omega) rfl a5

set_option maxRecDepth 100000 in
theorem solveSound_lifted (os : Os) (started : os.Started) (H : Type) (enc : TypeId × Value → H) :
    ReturnsInHanded {} Try.checked os 3 .any (Rows.solveSoundSpec.pre6 enc Try.prog Try.f3 Rows.solveSoundRow.domain false) (Rows.solveSoundSpec.post enc Try.prog Try.f3 false true false false) := by
  refine returnsInHanded_of_change (C := Try.checked) Try.own started (by kernel_rfl) Try.func3
    (ChangeSpec.witness6 (enc := enc) (C := Try.checked) false ⟨#[], #[.agg #[.int .i64 0, .slice none 0 0], .slice none 0 0], []⟩ 8 (by kernel_rfl) (by kernel_rfl) (by kernel_rfl) (by kernel_rfl)) ?_
  intro W base args ds gs before hval0 hW hcnd _
  have hval : ∀ (j : Nat) t v, Try.f3.params[j]? = some t → args[j]? = some v → Value.okWide Try.prog W .any base t v := hval0
  have hW' := hW
  obtain ⟨p, q, hA0, hV, rfl, hfz, hnd⟩ := hW
  have hA : DataW.TrodAll enc Try.prog W 0 (fun _ => true) true Try.f3.params.toList args.toList ds p := hA0
  rw [Try.params3] at hA hval
  obtain ⟨v0, v1, d0, d1, p0, p1, rfl, rfl, rfl, h0, h1⟩ := trodAll_two hA
  obtain ⟨rfl, rfl⟩ := trodVars_none hV
  obtain ⟨n0, l0, y0, y1, fu, rfl, rfl, rfl, hy0, hy1⟩ := open_agg2 Try.underlying24 (by kernel_rfl) (by kernel_rfl) (hval 0 24 v0 rfl rfl) h0
  obtain ⟨nn, e0, rfl, wn⟩ := DataW.trod_int Try.underlying3 hy0
  cases e0
  obtain ⟨ls, hls, _⟩ := rows_of_trod Try.underlying22 Try.underlying41 Try.underlying3 (by kernel_rfl) (by kernel_rfl) hy1
  obtain ⟨a1, len1, cap1, rfl⟩ := okWide_slice Try.underlying25 (hval 1 25 v1 rfl rfl)
  obtain ⟨fu1, hf1⟩ := h1
  obtain ⟨m, hm⟩ := bools_of_trod Try.underlying25 Try.underlying4 (by kernel_rfl) hf1
  clear hA0 hval0
  refine (solveSound_call nn l0 ls _ m W hls hm (inI64_of_wf wn)).mono fun e W' ⟨he, hc⟩ => ?_
  subst he
  exact ⟨_, rfl, law_post Try.laidOut hW' rfl ⟨rfl, rfl, rfl⟩ (by kernel_rfl) Try.underlying4 (by rw [Try.params3]; decide +kernel) hc.below0⟩

theorem solveSound_holds : Rows.SolveSoundSaid :=
  OpenClaim.holds_of_wide 3 Try.f3 rfl rfl rfl rfl rfl rfl rfl ⟨rfl, rfl, rfl, rfl, rfl⟩ rfl rfl rfl rfl rfl (by kernel_rfl) Try.func3 (by kernel_rfl)
    (of_decide_eq_true (by kernel_rfl)) (by unfold Func.isWrapper; first | (rw [if_pos (by decide +kernel)]; kernel_rfl) | (rw [if_neg (by decide +kernel)]; exact ⟨rfl, rfl⟩))
    (fun os started H enc _ => solveSound_lifted os started H enc)
end Go.Proofs.Ytbeidiaejcbgoaa
