/- Law 15: what literals force, and which are pure. Conditions: none. -/
import Derived.Test.YtchedkjlhjfadaaS12
set_option linter.unusedSimpArgs false
set_option linter.unusedVariables false
namespace Go.Proofs.Ytchedkjlhjfadaa
open Go Go.Ab
variable {ext : Sem'}
theorem alive15_e (hx : TX ext) : G ext 26 [] [] = some (.ret (.d (.bool true)), []) := G_run hx.clear 8 12 (by kernel_rfl)
def light15 (f : Fm) : Bool := lightP f && (decide (f.n ≤ 10) && decide (f.l.length ≤ 40))
theorem light15_e (hx : TX ext) (f : Fm) : G ext 24 [f.av] [] = some (.ret (.d (.bool (light15 f))), []) := by
  have hli := light_e hx f
  have hll : (f.l.map rowC).length = f.l.length := List.length_map _
  simp only [Fm.av] at hli
  rw [G_body hx.clear rfl Try.func24 rfl Try.results24 hv_24 rfl]
  simp only [Fm.av]
  unfold light15
  cases h1 : lightP f with
  | false =>
    rw [h1] at hli
    simp (config := { maxSteps := 4000000 }) (disch := first | (intros; contradiction) | omega) only [go_sem, hli, Bool.false_and]
  | true =>
    rw [h1] at hli
    by_cases h2 : f.n ≤ 10
    · have h3 : ((f.l.map rowC).length : Int) ≤ 40 ↔ f.l.length ≤ 40 := by rw [hll]; omega
      by_cases h4 : f.l.length ≤ 40
      · have h3 := h3.2 h4
        simp (config := { maxSteps := 4000000 }) (disch := first | (intros; contradiction) | omega) only [go_sem, hli, h2, h3, h4, decide_true, Bool.true_and]
      · have h3 : ¬ ((f.l.map rowC).length : Int) ≤ 40 := fun h => h4 (h3.1 h)
        simp (config := { maxSteps := 4000000 }) (disch := first | (intros; contradiction) | omega) only [go_sem, hli, h2, h3, h4, decide_true, decide_false, Bool.true_and]
    · simp (config := { maxSteps := 4000000 }) (disch := first | (intros; contradiction) | omega) only [go_sem, hli, h2, decide_true, decide_false, Bool.false_and, Bool.true_and]
theorem light15_inv {f : Fm} (h : light15 f = true) : Short f ∧ f.n ≤ 10 ∧ f.l.length ≤ 40 := by
  unfold light15 at h
  simp only [Bool.and_eq_true, decide_eq_true_eq] at h
  exact ⟨(light_short h.1).1, h.2.1, h.2.2⟩
theorem asm_bad {n : Nat} : ∀ {lits : List Int} {r : List (Int × Int)}, (∃ x, x ∈ lits ∧ (x = 0 ∨ (n : Int) < x ∨ x < -(n : Int))) → asm n r lits = none
  | [], r, ⟨x, h, _⟩ => by cases h
  | y :: l, r, ⟨x, h, hx⟩ => by
    rcases List.mem_cons.1 h with rfl | h
    · exact asm_none (by omega)
    · unfold asm
      split
      · rfl
      · split <;> exact asm_bad ⟨x, h, hx⟩
theorem neg_of_not {n : Int} (h0 : 0 ≤ n) (h1 : n ≤ 100000) {c : List Int} (h : allP n c = false) : ∃ x, x ∈ c ∧ (x = 0 ∨ n < x ∨ x < -n) := by
  unfold allP at h
  obtain ⟨x, hx, hl⟩ := List.all_eq_false.1 h
  refine ⟨x, hx, ?_⟩
  unfold litP at hl
  rw [wrap64 (by omega) (by omega)] at hl
  simp at hl
  omega
theorem fix_len {n : Nat} {fl : List (List Int)} {lits l : List Int} {b : Bool} (h : FixR n fl lits l b) : l.length ≤ n + 1 := by
  rcases h with ⟨_, rfl, _⟩ | ⟨_, q, r, _, _, _, rfl⟩
  · simp
  · have := outP_len (valR r) (List.range (n + 1))
    rw [List.length_range] at this
    exact this
theorem both_e (hx : TX ext) (f : Fm) (hs : Short f) (hn : f.n ≤ 10) (lits : List Int) (hl : lits.length ≤ 1000) : ∃ (l p : List Int) (b : Bool), l.length ≤ 100000 ∧ p.length ≤ 100000 ∧
    G ext 27 [f.av, .d (.sl (lits.map rowI))] [] = some (.ret (.tuple [.d (.sl (l.map rowI)), .d (.bool b)]), []) ∧
    G ext 28 [f.av, .d (.sl (lits.map rowI))] [] = some (.ret (.tuple [.d (.sl (l.map rowI)), .d (.bool b)]), []) ∧
    G ext 29 [f.av] [] = some (.ret (.d (.sl (p.map rowI))), []) ∧
    G ext 30 [f.av] [] = some (.ret (.d (.sl (p.map rowI))), []) := by
  by_cases hr : rightP f = true
  · obtain ⟨h0, h1, _⟩ := right_inv hr
    have hp1 := pure_e hx f hs hr
    have hp2 := rpure_e hx f hs hr
    have hpl := pureL_len f.l f.n.toNat
    obtain ⟨l, b, hf1, hf2⟩ := fixed_e hx f hs hr lits (by omega)
    have hfl := fix_len hf2
    by_cases hr2 : rightP ⟨f.n, [lits]⟩ = true
    · obtain ⟨l', b', hd1, hd2⟩ := rfixed_e hx f hs hr lits (by omega) (by omega) hr2
      have hla : allP f.n lits = true := List.all_eq_true.2 fun x hx => (right_inv hr2).2.2 lits (by simp) x hx
      obtain ⟨rfl, rfl⟩ := fix_same hr hla hf2 hd2
      exact ⟨l, _, b, by omega, by omega, hf1, hd1, hp1, hp2⟩
    · have hr2 : rightP ⟨f.n, [lits]⟩ = false := by simpa using hr2
      have hd := rfixed1_e hx f hs hr lits (by omega) hr2
      have hla : allP f.n lits = false := by
        cases ha : allP f.n lits
        · rfl
        · rw [← hr2]
          unfold rightP
          simp only [List.all_cons, List.all_nil, ha, List.length_cons, List.length_nil, Bool.and_true]
          rw [decide_eq_false (by omega), decide_eq_false (by omega), decide_eq_false (by omega)]
          rfl
      obtain ⟨x, hx1, hx2⟩ := neg_of_not h0 h1 hla
      have hasm : asm f.n.toNat [] lits = none := asm_bad ⟨x, hx1, by omega⟩
      rcases hf2 with ⟨rfl, rfl, _⟩ | ⟨_, q, _, hq, _⟩
      · exact ⟨[], _, false, by simp, by omega, hf1, hd, hp1, hp2⟩
      · rw [hasm] at hq; cases hq
  · have hr : rightP f = false := by simpa using hr
    exact ⟨[], [], false, by simp, by simp, fixed0_e hx f hs hr lits, rfixed0_e hx f hs hr lits, pure0_e hx f hs hr, rpure0_e hx f hs hr⟩
set_option maxHeartbeats 4000000 in
theorem fixedL_e (hx : TX ext) (f : Fm) (lits : List Int) : G ext 7 [f.av, .d (.sl (lits.map rowI))] [] = some (.ret (.d (.bool true)), []) := by
  have ha := alive15_e hx
  have hli := light15_e hx f
  have hc := clause_e hx lits
  rw [G_body hx.clear rfl Try.func7 rfl Try.results7 hv_7 rfl]
  cases h1 : light15 f with
  | false =>
    rw [h1] at hli
    simp only [Fm.av] at hli ⊢
    simp (config := { maxSteps := 4000000 }) (disch := first | (intros; contradiction) | omega) only [go_sem, hli, ha]
  | true =>
    rw [h1] at hli
    cases h2 : clauseP lits with
    | false =>
      rw [h2] at hc
      simp only [Fm.av] at hli ⊢
      simp (config := { maxSteps := 4000000 }) (disch := first | (intros; contradiction) | omega) only [go_sem, hli, hc, ha]
    | true =>
      rw [h2] at hc
      obtain ⟨hs, hn, hl40⟩ := light15_inv h1
      obtain ⟨hl60, hlr⟩ := clause_inv h2
      have ho := own_e hx f
      obtain ⟨l, p, b, hll, hpl, f1, f2, p1, p2⟩ := both_e hx f hs hn lits (by omega)
      have n1 := numbers_e hx l l (by omega)
      have n2 := numbers_e hx p p (by omega)
      rw [decide_eq_true rfl] at n1 n2
      simp only [Fm.av] at hli ho f1 f2 p1 p2 ⊢
      cases b with
      | false => simp (config := { maxSteps := 4000000 }) (disch := first | (intros; contradiction) | omega) only [go_sem, hli, hc, ho, f1, f2, p1, p2, n1, n2, ha]
      | true => simp (config := { maxSteps := 4000000 }) (disch := first | (intros; contradiction) | omega) only [go_sem, hli, hc, ho, f1, f2, p1, p2, n1, n2, ha]
end Go.Proofs.Ytchedkjlhjfadaa
