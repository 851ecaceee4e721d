/- Law 16: a formula without a model has a proof, and one with a model none. Conditions: none. -/
import Derived.Test.YtchedkjlhjfadaaQG
import Derived.Test.YtchedkjlhjfadaaQF
import Derived.Test.YtchedkjlhjfadaaSB
set_option linter.unusedSimpArgs false
set_option linter.unusedVariables false
namespace Go.Proofs.Ytchedkjlhjfadaa
open Go Go.Ab
variable {ext : Sem'}
theorem firstP_ext {n : Nat} (hn : n ≤ 12) {fl : List (List Int)} (hr : rightP ⟨n, fl⟩ = true) : firstP ⟨n, fl⟩ = (Go.Proofs.Ytchedkjlhjfadaa.ext n fl []).take 1 := by
  unfold firstP
  rw [if_pos ⟨hr, by simp only; omega⟩]
  congr 1
  unfold modsF Go.Proofs.Ytchedkjlhjfadaa.ext Mods
  simp only [Int.toNat_natCast]
  rw [← allM_bits, List.filter_filter]
  refine List.filter_congr fun m hm => ?_
  have hml := allM_len hm
  unfold evalP
  rw [hr, decide_eq_true (by simp only; omega)]
  simp only [Bool.true_and, satR, List.all_nil]
  unfold fT clauseT
  congr 1
  funext c
  congr 1
  funext x
  exact trueP_lit m x
/-- A refutation, as a proof. -/
theorem refuted {n : Nat} (hn : n ≤ 10) {fl : List (List Int)} (hr : rightP ⟨n, fl⟩ = true) (hl : lightP ⟨n, fl⟩ = true) {st : List Ps} {out : List (List Int)} {c : Nat} (hg : Gr n fl out st) (hc : c < (fl ++ out).length) (h0 : (fl ++ out).getD c [] = []) :
    Ok fl st out ∧ RightL n (fl ++ out) ∧ (∀ c, c ∈ fl ++ out → c.length ≤ 40000) ∧ ∃ e, First fl out e := by
  have hok := cls_ok.1 hg.cls
  refine ⟨hok, hg.right, fun d hd => ?_, first_of hc h0⟩
  have := cls_short hl st d (by show d ∈ fl ++ (clsP fl [] st).1; rw [hg.cls]; exact hd)
  omega
set_option maxHeartbeats 8000000 in
theorem refutesL_e (hx : TXP ext) (f : Fm) : G ext 3 [f.av] [] = some (.ret (.d (.bool true)), []) := by
  have ha := alive16_e hx
  have hli := light16_e hx.toTX f []
  have hxt := hx.toTX
  simp only [List.map_nil] at hli
  cases h1 : light16 f [] with
  | false =>
    rw [h1] at hli
    simp only [Fm.av] at hli ⊢
    have hx := hxt
    rw [G_body hx.clear rfl Try.func3 rfl Try.results3 hv_3 rfl]
    simp (config := { maxSteps := 4000000 }) (disch := first | (intros; contradiction) | omega) only [go_sem, hli, ha]
  | true =>
    rw [h1] at hli
    obtain ⟨_, _, g3, g4⟩ := light16_inv h1
    by_cases h2 : (10 : Int) < f.n
    · simp only [Fm.av] at hli ⊢
      have hx := hxt
      rw [G_body hx.clear rfl Try.func3 rfl Try.results3 hv_3 rfl]
      simp (config := { maxSteps := 4000000 }) (disch := first | (intros; contradiction) | omega) only [go_sem, hli, ha, h2]
    · have hs := (light_short g3).1
      have ho := own_e hxt f
      have hrr := rright_e hxt f hs
      cases hr : rightP f with
      | false =>
        rw [hr] at hrr
        have hre := refute0_e hx f hs hr
        simp only [Fm.av] at hli ho hrr hre ⊢
        have hx := hxt
        rw [G_body hx.clear rfl Try.func3 rfl Try.results3 hv_3 rfl]
        simp (config := { maxSteps := 4000000 }) (disch := first | (intros; contradiction) | omega) only [go_sem, hli, ha, h2, ho, hrr, hre, List.length_nil]
        done
      | true =>
        rw [hr] at hrr
        obtain ⟨h0, h3, _⟩ := right_inv hr
        have hmo := models_e hxt f hs
        obtain ⟨n, hnn⟩ : ∃ n : Nat, f.n = (n : Int) := ⟨f.n.toNat, by omega⟩
        obtain ⟨fn, fl⟩ := f
        simp only at hnn h2 h0 h3
        subst hnn
        have hn : n ≤ 10 := by omega
        rw [firstP_ext (by omega) hr] at hmo
        by_cases he : Go.Proofs.Ytchedkjlhjfadaa.ext n fl [] = []
        · rw [he] at hmo
          obtain ⟨st, k1, k2, k3, out, c, k4, k5, k6⟩ := refute_e hx n hn fl hs hr he
          obtain ⟨q1, q2, q3, e, q4⟩ := refuted hn hr g3 k4 k5 k6
          have hck := rcheck_e hxt ⟨n, fl⟩ hs hr st (by omega) out q1 (by simpa using q2) (by simp only [Int.toNat_natCast]; omega) q3 k3 e q4
          have hba := back16_e hxt st (by omega)
          simp only [Fm.av, List.take_nil, List.map_nil] at hli ho hrr hmo k1 hck ⊢
          have hx := hxt
          rw [G_body hx.clear rfl Try.func3 rfl Try.results3 hv_3 rfl]
          simp (config := { maxSteps := 4000000 }) (disch := first | (intros; contradiction) | omega) only [go_sem, hli, ha, h2, ho, hrr, hmo, k1, hck, hba, List.length_nil]
          done
        · have hre := refute1_e hx n hn fl hs hr he
          cases hex : Go.Proofs.Ytchedkjlhjfadaa.ext n fl [] with
          | nil => exact absurd hex he
          | cons m t =>
            rw [hex] at hmo
            simp only [Fm.av, List.take_succ_cons, List.take_zero, List.map_cons, List.map_nil] at hli ho hrr hmo hre ⊢
            have hx := hxt
            rw [G_body hx.clear rfl Try.func3 rfl Try.results3 hv_3 rfl]
            simp (config := { maxSteps := 4000000 }) (disch := first | (intros; contradiction) | omega) only [go_sem, hli, ha, h2, ho, hrr, hmo, hre, List.length_nil, List.length_cons]
            done
end Go.Proofs.Ytchedkjlhjfadaa
