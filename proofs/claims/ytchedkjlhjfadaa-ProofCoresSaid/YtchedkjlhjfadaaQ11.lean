/- Law 16: any proof that is trimmed is one, with the same core. Conditions: none. -/
import Derived.Test.YtchedkjlhjfadaaQC
set_option linter.unusedSimpArgs false
set_option linter.unusedVariables false
namespace Go.Proofs.Ytchedkjlhjfadaa
open Go Go.Ab
variable {ext : Sem'}
theorem trimL_on {n : Nat} {l : List Ps} {u : Int → Bool} {s : Ps} (h : s ∈ trimL n l u l.length) : ∃ q, q ∈ l ∧ s.on = q.on := by
  unfold trimL at h
  obtain ⟨j, hj, rfl⟩ := List.mem_map.1 h
  have hj := List.mem_range.1 (List.mem_filter.1 hj).1
  refine ⟨at0 l j, ?_, rfl⟩
  unfold at0
  rw [List.getD_eq_getElem?_getD, List.getElem?_eq_getElem hj]
  exact List.getElem_mem _
/-- What is trimmed fits as well. -/
theorem trim_fits {f : Fm} {l : List Ps} (hl : lightP f = true) (hf : Fits f l) : Fits f (trimP f l) := by
  by_cases he : emptyP f l = -1
  · have : trimP f l = [] := by
      unfold trimP inU
      simp only [he, if_true]
      exact trimR_no _ _ _ _ _
    rw [this]
    refine ⟨by simp, (fun s hs => by simp at hs), fun l' out _ ho c hc => ?_⟩
    have := cls_short hl l' c (by rw [ho]; exact hc)
    omega
  · obtain ⟨_, h2, _⟩ := trim_law he
    obtain ⟨_, out, k, hcl, _⟩ := empty_first he
    have htr : trimP f l = trimL f.l.length l (inU f l) l.length := trim_all (inU_clo (cls_ok.1 hcl) he)
    refine ⟨by have := hf.1; omega, fun s hs => ?_, fun l' out _ ho c hc => ?_⟩
    · rw [htr] at hs
      obtain ⟨q, hq, e⟩ := trimL_on hs
      rw [e]; exact hf.2.1 q hq
    · have := cls_short hl l' c (by rw [ho]; exact hc)
      omega
theorem trim_le (f : Fm) (l : List Ps) : (trimP f l).length ≤ l.length := by
  by_cases he : emptyP f l = -1
  · have : trimP f l = [] := by
      unfold trimP inU
      simp only [he, if_true]
      exact trimR_no _ _ _ _ _
    rw [this]; simp
  · exact (trim_law he).2.1
set_option maxHeartbeats 4000000 in
theorem trimsL_e (hx : TXP ext) (f : Fm) (l : List Ps) : G ext 6 [f.av, .d (.sl (l.map rowS))] [] = some (.ret (.d (.bool true)), []) := by
  have ha := alive16_e hx
  have hli := light16_e hx.toTX f l
  have hxt := hx.toTX
  cases h1 : light16 f l with
  | false =>
    rw [h1] at hli
    simp only [Fm.av] at hli ⊢
    have hx := hxt
    rw [G_body hx.clear rfl Try.func6 rfl Try.results6 hv_6 rfl]
    simp (config := { maxSteps := 4000000 }) (disch := first | (intros; contradiction) | omega) only [go_sem, hli, ha]
  | true =>
    rw [h1] at hli
    obtain ⟨g1, g2, g3, g4⟩ := light16_inv h1
    have hs := (light_short g3).1
    have hft := fits_light h1
    have ho := own_e hxt f
    have how := own16_e hxt l (by omega)
    have hch := check_e hx f hs l (fun _ => hft)
    have htr := trim_e hx f hs l (by omega) (fun _ => hft)
    have hco := core_e hx f hs l (by omega) (fun _ => hft)
    have hle := trim_le f l
    have hft2 := trim_fits g3 hft
    have hch2 := check_e hx f hs (trimP f l) (fun _ => hft2)
    have hco2 := core_e hx f hs (trimP f l) (by omega) (fun _ => hft2)
    have hcl : ∀ l', (coreP f l').length ≤ 1000 := fun l' => by unfold coreP; exact Nat.le_trans (pickU_len _ _) (by omega)
    have hcl1 := hcl l
    have hcl2 := hcl (trimP f l)
    have hnu := numbers_e hxt (coreP f (trimP f l)) (coreP f l) (by omega)
    have htl : ((trimP f l).map rowS).length = (trimP f l).length := List.length_map _
    have hll : (l.map rowS).length = l.length := List.length_map _
    by_cases he : emptyP f l = -1
    · have h0 : coreP f l = [] := by unfold coreP inU pickU; simp [he]
      have h0' : trimP f l = [] := by
        unfold trimP inU
        simp only [he, if_true]
        exact trimR_no _ _ _ _ _
      rw [h0] at hco
      rw [h0'] at htr
      rw [he] at hch
      have hd : decide ((-1 : Int) ≠ -1) = false := by decide
      rw [hd] at hch
      simp only [Fm.av, List.map_nil] at hli ho hch htr hco ⊢
      have hx := hxt
      rw [G_body hx.clear rfl Try.func6 rfl Try.results6 hv_6 rfl]
      have hw0 : IntKind.wrap .i64 0 = 0 := by decide
      simp (config := { maxSteps := 4000000 }) (disch := first | (intros; contradiction) | omega) only [go_sem, hli, ha, ho, how, hch, htr, hco, hw0, List.length_nil]
      done
    · obtain ⟨k1, k2, k3, _⟩ := trim_law he
      rw [decide_eq_true he] at hch
      rw [decide_eq_true k1] at hch2
      rw [decide_eq_true k3] at hnu
      have hlen : ((trimP f l).map rowS).length ≤ (l.map rowS).length := by omega
      have hlen2 : (((trimP f l).map rowS).length : Int) ≤ ((l.map rowS).length : Int) := by omega
      simp only [Fm.av] at hli ho hch htr hco hch2 hco2 ⊢
      generalize trimP f l = t at *
      have hx := hxt
      rw [G_body hx.clear rfl Try.func6 rfl Try.results6 hv_6 rfl]
      simp (config := { maxSteps := 4000000 }) (disch := first | (intros; contradiction) | omega) only [go_sem, hli, ha, ho, how, hch, htr, hco, hch2, hco2, hnu, hlen2]
      done
end Go.Proofs.Ytchedkjlhjfadaa
