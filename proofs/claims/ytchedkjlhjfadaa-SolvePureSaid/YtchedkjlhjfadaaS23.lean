/- Law 15: a formula with a model has one in which its pure literals are true. Conditions: none. -/
import Derived.Test.YtchedkjlhjfadaaS22
set_option linter.unusedSimpArgs false
set_option linter.unusedVariables false
namespace Go.Proofs.Ytchedkjlhjfadaa
open Go Go.Ab
variable {ext : Sem'}
theorem evalP_fT {n : Nat} {fl : List (List Int)} (hr : rightP ⟨n, fl⟩ = true) {m : List Bool} (hm : m.length = n) (h : fT m fl = true) : evalP ⟨n, fl⟩ m = true := by
  unfold evalP
  rw [hr]
  simp only [Bool.true_and]
  rw [decide_eq_true (by omega), Bool.true_and]
  refine List.all_eq_true.2 fun c hc => ?_
  have := List.all_eq_true.1 h c hc
  unfold clauseT at this
  obtain ⟨x, hx, hl⟩ := List.any_eq_true.1 this
  exact List.any_eq_true.2 ⟨x, hx, by rw [trueP_lit]; exact hl⟩
set_option maxHeartbeats 8000000 in
theorem pureLaw_e (hx : TXS ext) (f : Fm) : G ext 9 [f.av] [] = some (.ret (.d (.bool true)), []) := by
  have hxt := hx.toTX
  have ha := alive15_e hxt
  have hli := light15_e hxt f
  cases h1 : light15 f with
  | false =>
    rw [h1] at hli
    simp only [Fm.av] at hli ⊢
    have hx := hxt
    rw [G_body hx.clear rfl Try.func9 rfl Try.results9 hv_9 rfl]
    simp (config := { maxSteps := 4000000 }) (disch := first | (intros; contradiction) | omega) only [go_sem, hli, ha]
  | true =>
    rw [h1] at hli
    obtain ⟨hs, hn, hl40⟩ := light15_inv h1
    have hrr := rright_e hxt f hs
    cases hr : rightP f with
    | false =>
      rw [hr] at hrr
      simp only [Fm.av] at hli hrr ⊢
      have hx := hxt
      rw [G_body hx.clear rfl Try.func9 rfl Try.results9 hv_9 rfl]
      simp (config := { maxSteps := 4000000 }) (disch := first | (intros; contradiction) | omega) only [go_sem, hli, hrr, ha]
    | true =>
      rw [hr] at hrr
      obtain ⟨h0, h3, h4⟩ := right_inv hr
      obtain ⟨n, hnn⟩ : ∃ n : Nat, f.n = (n : Int) := ⟨f.n.toNat, by omega⟩
      obtain ⟨fn, fl⟩ := f
      simp only at hnn hn h0 h3 h4
      subst hnn
      have hn : n ≤ 10 := by omega
      obtain ⟨hrl, _, _⟩ := rightL_of hr
      have ho := own_e hxt ⟨n, fl⟩
      have hso := solve_e hxt n hn fl hs hr
      have hpu := pure_e hxt ⟨n, fl⟩ hs hr
      have hnew := snew_e hxt ⟨n, fl⟩ hs
      have hpl := pureL_len fl n
      obtain ⟨l, b2, hfi, hfx⟩ := fixed_e hxt ⟨n, fl⟩ hs hr (pureL fl n) (by omega)
      obtain ⟨m1, b, s1, hAs, hR1, hs2, hs3, _⟩ := assume1_e hx n fl none 0 (pureL fl n) (by simp [heldL]) (by omega) hn hs hr (by omega)
      simp only [Int.toNat_natCast] at hrl hpu hfx
      simp only [heldL, Option.getD_none, List.nil_append] at hR1 hAs
      have hb := pure_is hrl hR1
      rw [hr] at hnew
      generalize he : decide (Go.Proofs.Ytchedkjlhjfadaa.ext n fl [] ≠ []) = is at hso hb
      generalize ((Go.Proofs.Ytchedkjlhjfadaa.ext n fl []).headD []) = hd at hso
      subst hb
      have hxx := hx
      clear hx
      have hx := hxt
      cases b with
      | false =>
        simp only [Fm.av, solO, hAV, Bool.false_eq_true, if_false] at hli hrr ho hso hpu hnew hfi hAs ⊢
        rw [G_body hx.clear rfl Try.func9 rfl Try.results9 hv_9 rfl]
        simp (config := { maxSteps := 4000000 }) (disch := first | (intros; contradiction) | omega) only [go_sem, hli, hrr, ho, hso, hpu, hnew, hfi, hAs, ha]
        done
      | true =>
        have he := of_decide_eq_true he
        obtain ⟨hb2, hmm⟩ := pure_fix hrl he hfx
        subst hb2
        obtain ⟨m, b', s2, hMo, hR2, hs4, hs5, _⟩ := model1_e hxx n fl (some (pureL fl n)) s1 (by simp only [heldL, Option.getD_some]; omega) hn hs hr (by omega)
        simp only [heldL, Option.getD_some] at hR2
        obtain ⟨k1, k2, k3⟩ := hmm m b' hR2
        have hev := reval_e hxt ⟨n, fl⟩ hs m
        rw [evalP_fT hr k1 k2] at hev
        have htr := fun x (h : x ∈ l) => rtrue_e hxt n x m (by omega) h3 (by omega) (by
          obtain ⟨_, g1, g2, g3⟩ := k3 x h
          unfold litP
          rw [decide_eq_true g1, decide_eq_true g3, wrap64 (by omega) (by omega), decide_eq_true (by omega)]
          rfl)
        have htr : ∀ x, x ∈ l → G ext 38 [.d (.int .i64 x), .d (.sl (m.map rowB))] [] = some (.ret (.d (.bool true)), []) := fun x h => by
          rw [htr x h, trueP_lit, (k3 x h).1]
        have hfxx := hfx
        clear hfx hR1 hR2 hmm
        have hml : (m.map rowB).length = n := by rw [List.length_map, k1]
        have hll : l.length ≤ 100000 := by have := fix_len hfxx; omega
        generalize pureL fl n = p at hpu hAs hfi hMo
        simp only [Fm.av, solO, hAV, if_true] at hli hrr ho hso hpu hnew hfi hAs hMo hev ⊢
        rw [G_body hx.clear rfl Try.func9 rfl Try.results9 hv_9 rfl]
        simp (config := { maxSteps := 4000000 }) (disch := first | (intros; contradiction) | omega) only [go_sem, hli, hrr, ho, hso, hpu, hnew, hfi, hAs, hMo, ha]
        generalize hL : loopA _ _ _ = L
        apply range_upd hL (by simp (config := { maxSteps := 4000000 }) (disch := first | (intros; contradiction) | omega) only [go_sem] <;> rfl) l rowI (α := Unit) (fun rest k _ => ∀ x, x ∈ rest → x ∈ l) (fun k _ => [(11, .d (.int .i64 k))]) (fun _ _ => []) () (by simp (config := { maxSteps := 4000000 }) (disch := first | (intros; contradiction) | omega) only [go_sem] <;> rfl) (fun _ h => h) ?_ ?_
        · rintro x rest k _ i1 hlt hrow hget hk _ next ih
          clear hL
          simp only [rowI] at hrow
          have h1 := htr x (i1 x (by simp))
          have hwk : IntKind.wrap .i64 ((k : Int) + 1) = ((k + 1 : Nat) : Int) := by rw [wrap64 (by omega) (by omega)]; omega
          simp (config := { maxSteps := 4000000 }) (disch := first | (intros; contradiction) | omega) only [go_sem, hlt, hrow, hml, h1, hwk]
          exact ih () _ (fun y h => i1 y (by simp [h])) (by simp (config := { maxSteps := 4000000 }) (disch := first | (intros; contradiction) | omega) only [go_sem] <;> rfl)
        · rintro k _ _ hlt hk next
          clear hL
          simp (config := { maxSteps := 4000000 }) (disch := first | (intros; contradiction) | omega) only [go_sem, hlt, hev, ha]
end Go.Proofs.Ytchedkjlhjfadaa
