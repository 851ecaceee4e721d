/- Law 4: what is wrong first; what a program has by any names. Conditions: what is known of names.Check and the document's Check. -/
import Derived.Test.YthfollapianblaaN43
set_option linter.unusedSimpArgs false
set_option linter.unusedVariables false
namespace Go.Proofs.Ythfollapianblaa
open Go Go.Ab
variable {ext : Sem'}
def RCk (ext : Sem') : Prop := ∀ p, OkP p → G ext 10 [p.av] [] = some (.ret (dgOf (checkP p)).av, [])
set_option maxHeartbeats 4000000 in
theorem checksL_e (hx : T4 ext) (hr : RCk ext) (s : Str) : G ext 3 [.d (.str s)] [] = some (.ret (.d (.bool true)), []) := by
  have ha := alive4_e hx
  by_cases hs : s.length ≤ 3000
  · have hs' : ¬ (3000 : Int) < s.length := by omega
    obtain ⟨p, d, h1, h2⟩ := rtext_e hx.toT0 s hs
    have h3 := G_ext (hx.check p h2)
    have h4 := hr p h2
    generalize dgOf (checkP p) = c at h3 h4
    unfold Pr0.av Dg.av at *
    rw [G_body hx.clear rfl Try.func3 rfl Try.results3 hv_3 rfl]
    simp (maxSteps := 4000000) (disch := first | (intros; contradiction) | omega) only [go_sem, hs', h1, h3, h4, ha]
    done
  · have hs' : (3000 : Int) < s.length := by omega
    rw [G_body hx.clear rfl Try.func3 rfl Try.results3 hv_3 rfl]
    simp (maxSteps := 4000000) (disch := first | (intros; contradiction) | omega) only [go_sem, hs', ha]
    done
set_option maxHeartbeats 8000000 in
theorem findsL_e (hx : T4 ext) (s n1 n2 : Str) (a b : Tp) : G ext 4 [.d (.str s), .d (.str n1), .d (.str n2), a.av, b.av] [] = some (.ret (.d (.bool true)), []) := by
  have ha := alive4_e hx
  have hf1 := fits_e hx.toT0 a b
  have hf2 := rfits_e hx.toT0 a b
  unfold Tp.av at *
  by_cases h1 : s.length ≤ 3000
  · have h1' : ¬ (3000 : Int) < s.length := by omega
    by_cases h2 : n1.length ≤ 60
    · have h2' : ¬ (60 : Int) < n1.length := by omega
      by_cases h3 : n2.length ≤ 60
      · have h3' : ¬ (60 : Int) < n2.length := by omega
        by_cases h4 : a.to.length ≤ 60
        · have h4' : ¬ (60 : Int) < a.to.length := by omega
          by_cases h5 : b.to.length ≤ 60
          · have h5' : ¬ (60 : Int) < b.to.length := by omega
            obtain ⟨p, d, t1, t2⟩ := rtext_e hx.toT0 s h1
            have hll : (p.funcs.map Fn0.row).length = p.funcs.length := List.length_map _
            have hfn := t2.funcs
            have g1 := field_e hx.toT0 p n1 n2 t2.structs t2.fields
            have g2 := rfield_e hx.toT0 p n1 n2 t2.structs t2.fields
            have s1 := struct_e hx.toT0 p n2 t2.structs
            have s2 := rstruct_e hx.toT0 p n2 t2.structs
            have u1 := func_e hx.toT0 p n2 t2.funcs
            have u2 := rfunc_e hx.toT0 p n2 t2.funcs
            have hw : ∃ (x : Int) (y : Tp) (z : Bool), fldA (fieldP p n1 n2) = .tuple [.d (.int .i64 x), .agg [.d (.bool y.ptr), .d (.str y.to)], .d (.bool z)] := by
              cases fieldP p n1 n2 with
              | none => exact ⟨0, ⟨false, []⟩, false, rfl⟩
              | some x => exact ⟨x.1, x.2, true, rfl⟩
            obtain ⟨x, y, z, hw⟩ := hw
            rw [hw] at g1 g2
            clear hw
            generalize idxN (nmS n2) p.structs = i1 at s1 s2
            generalize idxN (nmF n2) p.funcs = i2 at u1 u2
            unfold Pr0.av Dg.av at *
            generalize hsr : p.structs.map Sr0.row = sr at *
            rw [G_body hx.clear rfl Try.func4 rfl Try.results4 hv_4 rfl]
            simp (maxSteps := 4000000) (disch := first | (intros; contradiction) | omega) only [go_sem, h1', h2', h3', h4', h5', t1, g1, g2]
            generalize hL : loopA _ _ _ = L
            apply range_upd hL (by simp (maxSteps := 4000000) (disch := first | (intros; contradiction) | omega) only [go_sem] <;> rfl) p.funcs Fn0.row (α := Unit) (fun rest i _ => True) (fun i _ => [(19, .d (.int .i64 i))]) (fun _ _ => []) () (by simp (maxSteps := 4000000) (disch := first | (intros; contradiction) | omega) only [go_sem] <;> rfl) trivial ?_ ?_
            · intro f rest i _ _ hlt hr hxx hil hrest next ih
              clear hL
              rw [hll] at hlt
              have hi0 : (0 : Int) ≤ (i : Int) := by omega
              have hwi : IntKind.wrap .i64 ((i : Int) + 1) = ((i + 1 : Nat) : Int) := by rw [wrap64 (by omega) (by omega)]; omega
              simp only [Fn0.row] at hr
              have hfm := List.mem_of_getElem? hxx
              have hsz := t2.size f hfm
              have hcn := cntL_siz f.body
              have e1 := ends_e hx.toT0 1000000 f.body (by omega) (Nat.le_refl _)
              have e2 := rends_e hx.toT0 1000000 f.body (by omega) (Nat.le_refl _)
              simp (maxSteps := 4000000) (disch := first | (intros; contradiction) | omega) only [go_sem, hll, hlt, hi0, hr, e1, e2, hwi]
              exact ih () _ trivial (by simp (maxSteps := 4000000) (disch := first | (intros; contradiction) | omega) only [go_sem] <;> rfl)
            · intro i _ _ hlt hil next
              clear hL
              rw [hll] at hlt
              simp (maxSteps := 4000000) (disch := first | (intros; contradiction) | omega) only [go_sem, hll, hlt, s1, s2, u1, u2, hf1, hf2, ha]
              done
          · have h5' : (60 : Int) < b.to.length := by omega
            rw [G_body hx.clear rfl Try.func4 rfl Try.results4 hv_4 rfl]
            simp (maxSteps := 4000000) (disch := first | (intros; contradiction) | omega) only [go_sem, h1', h2', h3', h4', h5', ha]
            done
        · have h4' : (60 : Int) < a.to.length := by omega
          rw [G_body hx.clear rfl Try.func4 rfl Try.results4 hv_4 rfl]
          simp (maxSteps := 4000000) (disch := first | (intros; contradiction) | omega) only [go_sem, h1', h2', h3', h4', ha]
          done
      · have h3' : (60 : Int) < n2.length := by omega
        rw [G_body hx.clear rfl Try.func4 rfl Try.results4 hv_4 rfl]
        simp (maxSteps := 4000000) (disch := first | (intros; contradiction) | omega) only [go_sem, h1', h2', h3', ha]
        done
    · have h2' : (60 : Int) < n1.length := by omega
      rw [G_body hx.clear rfl Try.func4 rfl Try.results4 hv_4 rfl]
      simp (maxSteps := 4000000) (disch := first | (intros; contradiction) | omega) only [go_sem, h1', h2', ha]
      done
  · have h1' : (3000 : Int) < s.length := by omega
    rw [G_body hx.clear rfl Try.func4 rfl Try.results4 hv_4 rfl]
    simp (maxSteps := 4000000) (disch := first | (intros; contradiction) | omega) only [go_sem, h1', ha]
    done
end Go.Proofs.Ythfollapianblaa
