/- Law 7: failures of which none is told. Conditions: none. -/
import Derived.Test.YtkflggjdlflndaaGreatZL
set_option linter.unusedSimpArgs false
set_option linter.unusedVariables false
namespace Go.Proofs.YtkflggjdlflndaaGreat
open Go Go.Ab
variable {ext : Sem'}
set_option maxHeartbeats 4000000 in
theorem tail_e (hx : T4 ext) (m : Md1) (hn : ∀ s, s ∈ m.structs → ∀ f, f ∈ s.fields → f.name.length ≤ 9223372036854775807) (inp : List Int) (fails : List Bool) (fuel more : Int) : G ext 6 [m.av, .d (.sl (inp.map rowU)), .d (.sl (fails.map rowT)), .d (.int .i64 fuel), .d (.int .i64 more)] [] = some (.ret (.d (.bool true)), []) := by
  have ha := alive_e hx
  obtain ⟨b, hb, hl⟩ := l05_e hx.toTX m hn
  have h7 := light7_e hx.toTX inp fails fuel
  simp only [Md1.av, Md1.sr, Md1.fr] at hb ⊢
  rw [G_body hx.clear rfl Tryz.func6 rfl Tryz.results6 hv_6 rfl]
  cases b with
  | false =>
    simp (maxSteps := 4000000) (disch := first | (intros; contradiction) | omega) only [go_sem, hb, ha]
    done
  | true =>
    cases c7 : light7 inp fails fuel with
    | false =>
      rw [c7] at h7
      simp (maxSteps := 4000000) (disch := first | (intros; contradiction) | omega) only [go_sem, hb, h7, ha]
      done
    | true =>
      rw [c7] at h7
      by_cases q1 : more < 0
      · have q1 := eq_true q1
        simp (maxSteps := 4000000) (disch := first | (intros; contradiction) | omega) only [go_sem, hb, h7, q1, ha]
        done
      by_cases q2 : 50 < more
      · have q2 := eq_true q2
        simp (maxSteps := 4000000) (disch := first | (intros; contradiction) | omega) only [go_sem, hb, h7, q1, q2, ha]
        done
      obtain ⟨p1, p2, p3, p4⟩ := light7_parts c7
      have hfl : (fails.map rowT).length = fails.length := List.length_map _
      have hf1 : fits 1 (fails.map rowT) := fits_rowT fails
      have hroom : room (fails.map rowT).length 1 := by unfold room; simp; omega
      simp (maxSteps := 4000000) (disch := first | (intros; contradiction) | omega) only [go_sem, hb, h7, q1, q2, hf1, hroom]
      generalize hL : loopA _ _ _ = L
      apply loop_post hL (fun i : Nat => (i : Int) ≤ more) (fun i => more.toNat - i)
        (fun i => ⟨[(0, .agg [.d (.sl (m.structs.map Sc1.row)), .d (.sl (m.funcs.map Cd1.row))]), (1, .d (.sl (inp.map rowU))), (2, .d (.sl (fails.map rowT))), (3, .d (.int .i64 fuel)), (4, .d (.int .i64 more)), (5, .ptr 0 0), (10, .d (.bool false)), (11, .grow 1 (i + 1) ((fails ++ List.replicate i false).map rowT)), (12, .d (.int .i64 i))], [], [.cells [.d (.sl (m.structs.map Sc1.row)), .d (.sl (m.funcs.map Cd1.row))], .grow (i + 1) 1, .no]⟩)
        0 (by simp only [List.replicate, List.append_nil]; rfl) (by omega)
      clear hL
      rintro i i1 next ih
      have hsn : (fails ++ List.replicate (i + 1) false).map rowT = (fails ++ List.replicate i false).map rowT ++ [rowT false] := by
        rw [List.replicate_succ', ← List.append_assoc, List.map_append]; rfl
      have hll : ((fails ++ List.replicate i false).map rowT).length = fails.length + i := by simp
      by_cases h : (i : Int) < more
      · have hr2 : room (((fails ++ List.replicate i false).map rowT).length + 1) 1 := by unfold room; simp; omega
        simp (maxSteps := 4000000) (disch := first | (intros; contradiction) | omega) only [go_sem, h, hr2, wrap64]
        exact ih (i + 1) _ (by omega) (by omega) (by rw [hsn]; simp (maxSteps := 4000000) (disch := first | (intros; contradiction) | omega) only [go_sem] <;> rfl)
      · have e : i = more.toNat := by omega
        have ra := G_ext (hx.run m inp fails fuel (hl rfl) (by omega) (by omega) (by omega) (by omega))
        have rb := G_ext (hx.run m inp (fails ++ List.replicate i false) fuel (hl rfl) (by omega) (by simp; omega) (by omega) (by omega))
        rw [runO_tail extZ_t3 m inp fails (hl rfl) p3 (by omega) i] at rb
        have ba := runO_isB m inp fails fuel
        generalize runO m inp fails fuel = A at ra rb ba
        obtain ⟨k, c, o, st, lf⟩ := A
        have hs := same_e hx.toTX (k := k) (c := c) (st := st) (lf := lf) (k2 := k) (c2 := c) (st2 := st) (lf2 := lf) ba ba
        simp only [Oc.av, Md1.av, Md1.sr, Md1.fr] at ra rb
        simp only [decide_true, Bool.and_self] at hs
        unfold outV at ra rb hs
        simp (maxSteps := 4000000) (disch := first | (intros; contradiction) | omega) only [go_sem, h, ra, rb, hs, ha]
        done
end Go.Proofs.YtkflggjdlflndaaGreat
