/- Law 7: with more fuel. Conditions: none. -/
import Derived.Test.YtkflggjdlflndaaGreatZL
set_option linter.unusedSimpArgs false
set_option linter.unusedVariables false
namespace Go.Proofs.YtkflggjdlflndaaGreat
open Go Go.Ab
variable {ext : Sem'}
theorem bytes_take {a t : List Int} : ((a ++ t).map rowU).take (a.map rowU).length = a.map rowU := by simp
set_option maxHeartbeats 4000000 in
theorem more_e (hx : T4 ext) (m : Md1) (hn : ∀ s, s ∈ m.structs → ∀ f, f ∈ s.fields → f.name.length ≤ 9223372036854775807) (inp : List Int) (fails : List Bool) (fuel more : Int) : G ext 5 [m.av, .d (.sl (inp.map rowU)), .d (.sl (fails.map rowT)), .d (.int .i64 fuel), .d (.int .i64 more)] [] = some (.ret (.d (.bool true)), []) := by
  have ha := alive_e hx
  obtain ⟨b, hb, hl⟩ := l05_e hx.toTX m hn
  have h7 := light7_e hx.toTX inp fails fuel
  have h8 := light7_e hx.toTX [] [] more
  simp only [List.map_nil] at h8
  simp only [Md1.av, Md1.sr, Md1.fr] at hb ⊢
  rw [G_body hx.clear rfl Tryz.func5 rfl Tryz.results5 hv_5 rfl]
  cases b with
  | false =>
    simp (maxSteps := 4000000) (disch := first | (intros; contradiction) | omega) only [go_sem, hb, ha]
    done
  | true =>
    cases c7 : light7 inp fails fuel with
    | false =>
      rw [c7] at h7
      simp (maxSteps := 4000000) (disch := first | (intros; contradiction) | omega) only [go_sem, hb, h7, ha]
      done
    | true =>
      rw [c7] at h7
      cases c8 : light7 [] [] more with
      | false =>
        rw [c8] at h8
        simp (maxSteps := 4000000) (disch := first | (intros; contradiction) | omega) only [go_sem, hb, h7, h8, ha]
        done
      | true =>
        rw [c8] at h8
        obtain ⟨p1, p2, p3, p4⟩ := light7_parts c7
        obtain ⟨_, _, p5, p6⟩ := light7_parts c8
        obtain ⟨f1, f2, f3, f4⟩ := runO_ends extZ_t3 m inp fails (hl rfl) p3 p5 (by omega : fuel + more ≤ 20000)
        have ra := G_ext (hx.run m inp fails fuel (hl rfl) (by omega) (by omega) (by omega) (by omega))
        have rb := G_ext (hx.run m inp fails (fuel + more) (hl rfl) (by omega) (by omega) (by omega) (by omega))
        have hw : IntKind.wrap .i64 (fuel + more) = fuel + more := wrap64 (by omega) (by omega)
        have ba := runO_isB m inp fails fuel
        have bb := runO_isB m inp fails (fuel + more)
        generalize runO m inp fails fuel = A at f1 f2 f3 f4 ra ba
        generalize runO m inp fails (fuel + more) = B at f3 f4 rb bb
        obtain ⟨k, c, o, st, lf⟩ := A
        obtain ⟨k2, c2, o2, st2, lf2⟩ := B
        simp only [Oc.av, Md1.av, Md1.sr, Md1.fr] at ra rb
        simp only at f1 f2 f3 f4 ba bb
        obtain ⟨t, rfl⟩ := f4
        have hs := same_e hx.toTX (k := k) (c := c) (st := st) (lf := lf) (k2 := k2) (c2 := c2) (st2 := st2) (lf2 := lf2) ba bb
        have b1 := bytesR_rowU ba
        have b2 := bytesR_rowU bb
        have ht := bytes_take (a := o) (t := t)
        have hle : ((o.map rowU).length : Int) ≤ (((o ++ t).map rowU).length : Int) := by simp; omega
        have f2 : ¬ fuel < st := by omega
        by_cases q : k = 4
        · have g1 := f1 q
          clear f1 f3
          subst q
          subst g1
          unfold outV at ra rb hs
          simp (maxSteps := 4000000) (disch := first | (intros; contradiction) | omega) only [go_sem, hb, h7, h8, ha, ra, rb, hw, f2, b1, b2, ht, hle]
          done
        · have f3 := f3 q
          simp only [Oc.mk.injEq] at f3
          obtain ⟨rfl, rfl, e3, rfl, rfl⟩ := f3
          rw [e3] at rb hs b2 ht hle
          simp only [decide_true, Bool.and_self] at hs
          unfold outV at ra rb hs
          simp (maxSteps := 4000000) (disch := first | (intros; contradiction) | omega) only [go_sem, hb, h7, h8, ha, ra, rb, hw, f2, q, hs, b1, b2, ht, hle]
          done
end Go.Proofs.YtkflggjdlflndaaGreat
