/- Law 14: its own functions; what clauses resolve to. Conditions: none. -/
import Derived.Test.YtchedkjlhjfadaaC8
set_option linter.unusedSimpArgs false
set_option linter.unusedVariables false
namespace Go.Proofs.Ytchedkjlhjfadaa
open Go Go.Ab
variable {ext : Sem'}
theorem numbers_e (hx : TX ext) (a b : List Int) (hl : a.length ≤ 1000000) : G ext 23 [.d (.sl (a.map rowI)), .d (.sl (b.map rowI))] [] = some (.ret (.d (.bool (decide (a = b)))), []) := by
  have hal : (a.map rowI).length = a.length := List.length_map _
  have hbl : (b.map rowI).length = b.length := List.length_map _
  rw [G_body hx.clear rfl Try.func23 rfl Try.results23 hv_23 rfl]
  by_cases h : ((a.map rowI).length : Int) = ((b.map rowI).length : Int)
  · have h' := eq_true h
    simp (config := { maxSteps := 4000000 }) (disch := first | (intros; contradiction) | omega) only [go_sem, h']
    generalize hL : loopA _ _ _ = L
    apply range_upd hL (by simp (config := { maxSteps := 4000000 }) (disch := first | (intros; contradiction) | omega) only [go_sem] <;> rfl) a rowI (α := Unit) (fun rest k _ => a.take k = b.take k) (fun k _ => [(5, .d (.int .i64 k))]) (fun _ _ => []) () (by simp (config := { maxSteps := 4000000 }) (disch := first | (intros; contradiction) | omega) only [go_sem] <;> rfl) rfl ?_ ?_
    · intro x rest k _ hi hlt hr hxx hk _ next ih
      clear hL
      have hkb : k < b.length := by omega
      have hrb := map_at (f := rowI) hkb
      have htb := List.take_succ_eq_append_getElem hkb
      have hta := List.take_succ_eq_append_getElem hk
      have hgb := List.getElem?_eq_getElem hkb
      generalize b[k] = y at hrb htb hgb
      have hxa : a[k] = x := by rw [List.getElem?_eq_getElem hk] at hxx; simpa using hxx
      rw [hxa] at hta
      simp only [rowI] at hr hrb
      by_cases hxy : x = y
      · have e := eq_true hxy
        simp (config := { maxSteps := 4000000 }) (disch := first | (intros; contradiction) | omega) only [go_sem, hlt, hr, hrb, e, wrap64]
        exact ih () _ (by rw [hta, htb, hi, hxy]) (by simp (config := { maxSteps := 4000000 }) (disch := first | (intros; contradiction) | omega) only [go_sem] <;> rfl)
      · have hne : ¬ a = b := by
          intro e
          rw [e, hgb] at hxx
          exact hxy (by simpa using hxx.symm)
        rw [decide_eq_false hne]
        simp (config := { maxSteps := 4000000 }) (disch := first | (intros; contradiction) | omega) only [go_sem, hlt, hr, hrb, hxy, wrap64]
    · intro k _ hi hlt hk next
      clear hL
      have e : a = b := by
        have h1 := List.take_of_length_le (show a.length ≤ k by omega)
        have h2 := List.take_of_length_le (show b.length ≤ k by omega)
        rw [← h1, hi, h2]
      rw [decide_eq_true e]
      simp (config := { maxSteps := 4000000 }) (disch := first | (intros; contradiction) | omega) only [go_sem, hlt]
  · have hne : ¬ a = b := by intro e; rw [e] at h; exact h rfl
    rw [decide_eq_false hne]
    simp (config := { maxSteps := 4000000 }) (disch := first | (intros; contradiction) | omega) only [go_sem, h]
theorem own_e (hx : TX ext) (f : Fm) : G ext 13 [f.av] [] = some (.ret f.av, []) := by
  rw [G_body hx.clear rfl Try.func13 rfl Try.results13 hv_13 rfl]
  simp only [Fm.av]
  simp (config := { maxSteps := 4000000 }) (disch := first | (intros; contradiction) | omega) only [go_sem]
def clauseP (c : List Int) : Bool := decide (c.length ≤ 60) && c.all fun x => decide (-1000000 ≤ x) && decide (x ≤ 1000000)
theorem clause_e (hx : TX ext) (c : List Int) : G ext 25 [.d (.sl (c.map rowI))] [] = some (.ret (.d (.bool (clauseP c))), []) := by
  have hcl : (c.map rowI).length = c.length := List.length_map _
  rw [G_body hx.clear rfl Try.func25 rfl Try.results25 hv_25 rfl]
  unfold clauseP
  by_cases h : (60 : Int) < ((c.map rowI).length : Int)
  · rw [decide_eq_false (show ¬ c.length ≤ 60 by omega), Bool.false_and]
    simp (config := { maxSteps := 4000000 }) (disch := first | (intros; contradiction) | omega) only [go_sem, h]
  · rw [decide_eq_true (show c.length ≤ 60 by omega), Bool.true_and]
    simp (config := { maxSteps := 4000000 }) (disch := first | (intros; contradiction) | omega) only [go_sem, h]
    generalize hL : loopA _ _ _ = L
    apply range_upd hL (by simp (config := { maxSteps := 4000000 }) (disch := first | (intros; contradiction) | omega) only [go_sem] <;> rfl) c rowI (α := Unit) (fun rest k _ => (c.all fun x => decide (-1000000 ≤ x) && decide (x ≤ 1000000)) = (rest.all fun x => decide (-1000000 ≤ x) && decide (x ≤ 1000000))) (fun k _ => [(3, .d (.int .i64 k))]) (fun _ _ => []) () (by simp (config := { maxSteps := 4000000 }) (disch := first | (intros; contradiction) | omega) only [go_sem] <;> rfl) rfl ?_ ?_
    · intro x rest k _ hi hlt hr hxx hk _ next ih
      clear hL
      simp only [rowI] at hr
      rw [List.all_cons] at hi
      by_cases h1 : x < -1000000
      · rw [hi, decide_eq_false (show ¬ -1000000 ≤ x by omega), Bool.false_and, Bool.false_and]
        simp (config := { maxSteps := 4000000 }) (disch := first | (intros; contradiction) | omega) only [go_sem, hlt, hr, h1]
      · by_cases h2 : 1000000 < x
        · rw [hi, decide_eq_false (show ¬ x ≤ 1000000 by omega), Bool.and_false, Bool.false_and]
          simp (config := { maxSteps := 4000000 }) (disch := first | (intros; contradiction) | omega) only [go_sem, hlt, hr, h1, h2]
        · rw [decide_eq_true (show -1000000 ≤ x by omega), decide_eq_true (show x ≤ 1000000 by omega), Bool.true_and, Bool.true_and] at hi
          simp (config := { maxSteps := 4000000 }) (disch := first | (intros; contradiction) | omega) only [go_sem, hlt, hr, h1, h2, wrap64]
          exact ih () _ hi (by simp (config := { maxSteps := 4000000 }) (disch := first | (intros; contradiction) | omega) only [go_sem] <;> rfl)
    · intro k _ hi hlt hk next
      clear hL
      rw [hi]
      simp (config := { maxSteps := 4000000 }) (disch := first | (intros; contradiction) | omega) only [go_sem, hlt, List.all_nil]
theorem clause_inv {c : List Int} (h : clauseP c = true) : c.length ≤ 60 ∧ ∀ x, x ∈ c → -1000000 ≤ x ∧ x ≤ 1000000 := by
  unfold clauseP at h
  simp only [Bool.and_eq_true, decide_eq_true_eq, List.all_eq_true] at h
  exact h
def lightP (f : Fm) : Bool := decide (f.l.length ≤ 80) && f.l.all clauseP
theorem light_e (hx : TX ext) (f : Fm) : G ext 40 [f.av] [] = some (.ret (.d (.bool (lightP f))), []) := by
  have hll : (f.l.map rowC).length = f.l.length := List.length_map _
  have hc := fun c => clause_e hx c
  rw [G_body hx.clear rfl Try.func40 rfl Try.results40 hv_40 rfl]
  unfold lightP
  simp only [Fm.av]
  by_cases h : (80 : Int) < ((f.l.map rowC).length : Int)
  · rw [decide_eq_false (show ¬ f.l.length ≤ 80 by omega), Bool.false_and]
    simp (config := { maxSteps := 4000000 }) (disch := first | (intros; contradiction) | omega) only [go_sem, h]
  · rw [decide_eq_true (show f.l.length ≤ 80 by omega), Bool.true_and]
    simp (config := { maxSteps := 4000000 }) (disch := first | (intros; contradiction) | omega) only [go_sem, h]
    generalize hL : loopA _ _ _ = L
    apply range_upd hL (by simp (config := { maxSteps := 4000000 }) (disch := first | (intros; contradiction) | omega) only [go_sem] <;> rfl) f.l rowC (α := Unit) (fun rest k _ => f.l.all clauseP = rest.all clauseP) (fun k _ => [(3, .d (.int .i64 k))]) (fun _ _ => []) () (by simp (config := { maxSteps := 4000000 }) (disch := first | (intros; contradiction) | omega) only [go_sem] <;> rfl) rfl ?_ ?_
    · intro x rest k _ hi hlt hr hxx hk _ next ih
      clear hL
      have hcx := hc x
      simp only [rowC] at hr
      rw [List.all_cons] at hi
      cases hb : clauseP x with
      | false =>
        rw [hb] at hcx hi
        rw [hi, Bool.false_and]
        simp (config := { maxSteps := 4000000 }) (disch := first | (intros; contradiction) | omega) only [go_sem, hlt, hr, hcx]
      | true =>
        rw [hb] at hcx hi
        simp (config := { maxSteps := 4000000 }) (disch := first | (intros; contradiction) | omega) only [go_sem, hlt, hr, hcx, wrap64]
        exact ih () _ (by rw [hi, Bool.true_and]) (by simp (config := { maxSteps := 4000000 }) (disch := first | (intros; contradiction) | omega) only [go_sem] <;> rfl)
    · intro k _ hi hlt hk next
      clear hL
      rw [hi]
      simp (config := { maxSteps := 4000000 }) (disch := first | (intros; contradiction) | omega) only [go_sem, hlt, List.all_nil]
theorem light_short {f : Fm} (h : lightP f = true) : Short f ∧ ∀ c, c ∈ f.l → ∀ x, x ∈ c → -1000000 ≤ x ∧ x ≤ 1000000 := by
  unfold lightP at h
  simp only [Bool.and_eq_true, decide_eq_true_eq, List.all_eq_true] at h
  exact ⟨⟨by omega, fun c hc => by have := (clause_inv (h.2 c hc)).1; omega⟩, fun c hc => (clause_inv (h.2 c hc)).2⟩
theorem room_n8 {n : Nat} (h : n ≤ 1000000) : room n 8 := by unfold room; simp; omega
def withoutP (v : Int) (c : List Int) : List Int := c.filter fun y => decide (y ≠ v)
/-- What clauses resolve to. -/
def resolveP (a b : List Int) (v : Int) : Option (List Int) :=
  if v < 1 ∨ hasP a v = false ∨ hasP b (0 - v) = false then none else
  if cleanL (normL (withoutP v a ++ withoutP (0 - v) b)) then some (normL (withoutP v a ++ withoutP (0 - v) b)) else none
def resA : Option (List Int) → AV
  | some c => .tuple [.d (.sl (c.map rowI)), .d (.bool true)]
  | none => .tuple [.d (.sl []), .d (.bool false)]
set_option maxHeartbeats 1000000 in
theorem resolve_e (hx : TX ext) (a b : List Int) (v : Int) (ha : a.length ≤ 1000) (hb : b.length ≤ 1000) (hv : v ≤ 9223372036854775807) : G ext 93 [.d (.sl (a.map rowI)), .d (.sl (b.map rowI)), .d (.int .i64 v)] [] = some (.ret (resA (resolveP a b v)), []) := by
  have h1 := containsv_e hx a v (by omega)
  have h2 := containsv_e hx b (0 - v) (by omega)
  have hla : (withoutP v a).length ≤ a.length := List.length_filter_le _ _
  have hlb : (withoutP (0 - v) b).length ≤ b.length := List.length_filter_le _ _
  have hn := norm_e hx (withoutP v a ++ withoutP (0 - v) b) (by rw [List.length_append]; omega)
  have hroom : room (((withoutP v a).map rowI).length + ((withoutP (0 - v) b).map rowI).length) 8 := by
    have := room_n8 (n := (withoutP v a).length + (withoutP (0 - v) b).length) (by omega)
    simpa only [List.length_map] using this
  have hfit : fits 1 ((withoutP (0 - v) b).map rowI) := by intro row h; obtain ⟨x, _, rfl⟩ := List.mem_map.1 h; rfl
  rw [G_body hx.clear rfl Try.func93 rfl Try.results93 hv_93 rfl]
  unfold resolveP
  rw [List.map_append] at hn
  by_cases g1 : v < 1
  · rw [if_pos (.inl g1)]
    simp only [resA]
    simp (config := { maxSteps := 4000000 }) (disch := first | (intros; contradiction) | omega) only [go_sem, g1]
  · cases g2 : hasP a v with
    | false =>
      rw [g2] at h1
      rw [if_pos (.inr (.inl rfl))]
      simp only [resA]
      simp (config := { maxSteps := 4000000 }) (disch := first | (intros; contradiction) | omega) only [go_sem, g1, h1]
    | true =>
      rw [g2] at h1
      cases g3 : hasP b (0 - v) with
      | false =>
        rw [g3] at h2
        rw [if_pos (.inr (.inr rfl))]
        simp only [resA]
        simp (config := { maxSteps := 4000000 }) (disch := first | (intros; contradiction) | omega) only [go_sem, g1, h1, h2, wrap64]
      | true =>
        rw [g3] at h2
        rw [if_neg (by simp; omega)]
        have w1 := G_ext (hx.without a v (by rintro rfl; cases g2) (by omega))
        have w2 := G_ext (hx.without b (0 - v) (by rintro rfl; cases g3) (by omega))
        rw [show (a.filter fun y => decide (y ≠ v)) = withoutP v a from rfl] at w1
        rw [show (b.filter fun y => decide (y ≠ 0 - v)) = withoutP (0 - v) b from rfl] at w2
        cases g4 : cleanL (normL (withoutP v a ++ withoutP (0 - v) b)) with
        | true =>
          rw [g4] at hn
          simp only [if_true, resA]
          simp (config := { maxSteps := 4000000 }) (disch := first | (intros; contradiction) | omega) only [go_sem, g1, h1, h2, wrap64, w1, w2, hroom, hfit, hn]
        | false =>
          rw [g4] at hn
          simp only [Bool.false_eq_true, if_false, resA]
          simp (config := { maxSteps := 4000000 }) (disch := first | (intros; contradiction) | omega) only [go_sem, g1, h1, h2, wrap64, w1, w2, hroom, hfit, hn]
end Go.Proofs.Ytchedkjlhjfadaa
