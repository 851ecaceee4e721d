/- The document's models, one by one: bits, truths; The document's models of a formula with literals: the first; The document's numbers as models. Conditions: none. -/
import Derived.Test.YtchedkjlhjfadaaS6
import Derived.Test.YtchedkjlhjfadaaSA
set_option linter.unusedSimpArgs false
set_option linter.unusedVariables false
namespace Go.Proofs.Ytchedkjlhjfadaa
open Go Go.Ab
variable {ext : Sem'}
theorem truths_e (hx : TX ext) (a b : List Bool) (hl : a.length ≤ 1000000) : G ext 35 [.d (.sl (a.map rowB)), .d (.sl (b.map rowB))] [] = some (.ret (.d (.bool (decide (a = b)))), []) := by
  have hal : (a.map rowB).length = a.length := List.length_map _
  have hbl : (b.map rowB).length = b.length := List.length_map _
  rw [G_body hx.clear rfl Try.func35 rfl Try.results35 hv_35 rfl]
  by_cases h : ((a.map rowB).length : Int) = ((b.map rowB).length : Int)
  · have h' := eq_true h
    simp (config := { maxSteps := 4000000 }) (disch := first | (intros; contradiction) | omega) only [go_sem, h']
    generalize hL : loopA _ _ _ = L
    apply range_upd hL (by simp (config := { maxSteps := 4000000 }) (disch := first | (intros; contradiction) | omega) only [go_sem] <;> rfl) a rowB (α := Unit) (fun rest k _ => a.take k = b.take k) (fun k _ => [(5, .d (.int .i64 k))]) (fun _ _ => []) () (by simp (config := { maxSteps := 4000000 }) (disch := first | (intros; contradiction) | omega) only [go_sem] <;> rfl) rfl ?_ ?_
    · intro x rest k _ hi hlt hr hxx hk _ next ih
      clear hL
      have hkb : k < b.length := by omega
      have hrb := map_at (f := rowB) hkb
      have htb := List.take_succ_eq_append_getElem hkb
      have hta := List.take_succ_eq_append_getElem hk
      have hgb := List.getElem?_eq_getElem hkb
      generalize b[k] = y at hrb htb hgb
      have hxa : a[k] = x := by rw [List.getElem?_eq_getElem hk] at hxx; simpa using hxx
      rw [hxa] at hta
      simp only [rowB] at hr hrb
      by_cases hxy : x = y
      · have e := eq_true hxy
        simp (config := { maxSteps := 4000000 }) (disch := first | (intros; contradiction) | omega) only [go_sem, hlt, hr, hrb, e, wrap64]
        exact ih () _ (by rw [hta, htb, hi, hxy]) (by simp (config := { maxSteps := 4000000 }) (disch := first | (intros; contradiction) | omega) only [go_sem] <;> rfl)
      · have hne : ¬ a = b := by
          intro e
          rw [e, hgb] at hxx
          exact hxy (by simpa using hxx.symm)
        rw [decide_eq_false hne]
        simp (config := { maxSteps := 4000000 }) (disch := first | (intros; contradiction) | omega) only [go_sem, hlt, hr, hrb, hxy, wrap64]
    · intro k _ hi hlt hk next
      clear hL
      have e : a = b := by
        have h1 := List.take_of_length_le (show a.length ≤ k by omega)
        have h2 := List.take_of_length_le (show b.length ≤ k by omega)
        rw [← h1, hi, h2]
      rw [decide_eq_true e]
      simp (config := { maxSteps := 4000000 }) (disch := first | (intros; contradiction) | omega) only [go_sem, hlt]
  · have hne : ¬ a = b := by intro e; rw [e] at h; exact h rfl
    rw [decide_eq_false hne]
    simp (config := { maxSteps := 4000000 }) (disch := first | (intros; contradiction) | omega) only [go_sem, h]
def bitsL (w x : Nat) : List Bool := (List.range w).map fun i => decide (x / 2 ^ (w - 1 - i) % 2 = 1)
theorem bits_e (hx : TX ext) (x w : Nat) (hw : w ≤ 1000) (hxx : x ≤ 1000000) : G ext 45 [.d (.int .i64 x), .d (.int .i64 w)] [] = some (.ret (.d (.sl ((bitsL w x).map rowB))), []) := by
  have b1 := fun l => avB_refs l
  have b2 := fun l f => avB_ren f l
  obtain ⟨m, hm⟩ : ∃ m, m = w := ⟨_, rfl⟩
  have hroom : room m 1 := by unfold room; simp; omega
  have h0 : (0 : Int) ≤ (w : Int) := by omega
  have hz := falsesB m
  have e0 : ((w : Int)).toNat = m := by omega
  have hw0 : IntKind.wrap .i64 ((w : Int) - 1) = (w : Int) - 1 := wrap64 (by omega) (by omega)
  rw [G_body hx.clear rfl Try.func45 rfl Try.results45 hv_45 rfl]
  rw [hm] at hz hroom e0
  simp (config := { maxSteps := 4000000 }) (disch := first | (intros; contradiction) | omega) only [go_sem, hroom, h0, Int.le_refl, e0, hz, b1, hw0]
  generalize hL : loopA _ _ _ = L
  apply loop_upd hL (by simp (config := { maxSteps := 4000000 }) (disch := first | (intros; contradiction) | omega) only [go_sem, b1] <;> rfl) (α := Nat × List Bool) (fun s => s.1 ≤ w ∧ s.2.length = w ∧ ∀ i, w - s.1 ≤ i → i < w → s.2[i]? = some (decide (x / 2 ^ (w - 1 - i) % 2 = 1))) (fun s => w - s.1)
    (fun s => [(0, .d (.int .i64 ((x / 2 ^ s.1 : Nat) : Int))), (6, .d (.int .i64 ((w : Int) - 1 - s.1)))]) (fun s => [(1, .cells (s.2.map avB))]) (0, List.replicate w false) (by simp (config := { maxSteps := 4000000 }) (disch := first | (intros; contradiction) | omega) only [go_sem, Nat.pow_zero, Nat.div_one, Int.sub_zero] <;> rfl) ⟨by simp, by simp, by simp; omega⟩ ?_
  rintro ⟨j, bl⟩ ⟨i1, i2, i3⟩ next ih
  simp only at i1 i2 i3 ih ⊢
  clear hL
  by_cases hj : j < w
  · obtain ⟨k, hk⟩ : ∃ k : Nat, k = w - 1 - j := ⟨_, rfl⟩
    have hki : (w : Int) - 1 - j = (k : Int) := by omega
    have hge : (0 : Int) ≤ (k : Int) := by omega
    have hkw : (k : Int) < (w : Int) := by omega
    have hmod : ((x / 2 ^ j : Nat) : Int).tmod 2 = ((x / 2 ^ j % 2 : Nat) : Int) := rfl
    have hdiv : IntKind.wrap .i64 (((x / 2 ^ j : Nat) : Int).tdiv 2) = ((x / 2 ^ (j + 1) : Nat) : Int) := by
      have h1 : ((x / 2 ^ j : Nat) : Int).tdiv 2 = ((x / 2 ^ j / 2 : Nat) : Int) := rfl
      rw [h1, Nat.div_div_eq_div_mul, ← Nat.pow_succ]
      have := Nat.div_le_self x (2 ^ (j + 1))
      show IntKind.wrap .i64 ((x / 2 ^ (j + 1) : Nat) : Int) = _
      generalize x / 2 ^ (j + 1) = z at this ⊢
      exact wrap64 (by omega) (by omega)
    have hdec : (((x / 2 ^ j % 2 : Nat) : Int) = 1) = (x / 2 ^ j % 2 = 1) := propext (by omega)
    have hw1 : IntKind.wrap .i64 ((k : Int) - 1) = (w : Int) - 1 - ((j + 1 : Nat) : Int) := by rw [wrap64 (by omega) (by omega)]; omega
    have hs := setB (l := bl) (a := k) (y := decide (x / 2 ^ j % 2 = 1)) (by omega)
    have hr : k + 1 ≤ (bl.map avB).length := by rw [List.length_map]; omega
    rw [hki]
    simp (config := { maxSteps := 4000000 }) (disch := first | (intros; contradiction) | omega) only [go_sem, hge, hkw, hmod, hdiv, hdec, hw1, hs, hr, Nat.mul_one, b1, b2]
    refine ih (j + 1, bl.set k (decide (x / 2 ^ j % 2 = 1))) _ ⟨hj, by simpa using i2, fun i h1 h2 => ?_⟩ (by simp only; omega) (by simp (config := { maxSteps := 4000000 }) (disch := first | (intros; contradiction) | omega) only [go_sem, b1, b2] <;> rfl)
    by_cases hik : k = i
    · subst hik
      rw [List.getElem?_set_self (by omega), show w - 1 - k = j by omega]
    · rw [List.getElem?_set_ne hik]
      exact i3 i (by omega) h2
  · have hge : ¬ (0 : Int) ≤ (w : Int) - 1 - j := by omega
    have hbl : bl = bitsL w x := by
      apply List.ext_getElem?
      intro i
      by_cases hi : i < w
      · rw [i3 i (by omega) hi]
        unfold bitsL
        rw [List.getElem?_map, List.getElem?_range hi]
        rfl
      · rw [List.getElem?_eq_none (by omega), List.getElem?_eq_none (by unfold bitsL; simp; omega)]
    have hbw : (bitsL w x).length = w := by unfold bitsL; simp
    subst hbl
    generalize bitsL w x = bl at hbw
    have hll : (List.map avB bl).length = w := by rw [List.length_map]; exact hbw
    have hd := dataB bl
    have hch := chunkB bl
    rw [hbw] at hch
    have htk : List.take w (List.map avB bl) = List.map avB bl := List.take_of_length_le (by omega)
    simp (config := { maxSteps := 4000000 }) (disch := first | (intros; contradiction) | omega) only [go_sem, hge, hll, hd, hch, htk, Nat.mul_one, Nat.le_refl, b1, b2]
end Go.Proofs.Ytchedkjlhjfadaa
namespace Go.Proofs.Ytchedkjlhjfadaa
open Go Go.Ab
variable {ext : Sem'}
def rowM (m : List Bool) : List Dt := [.sl (m.map rowB)]
def withP (f : Fm) (lits : List Int) : Fm := ⟨f.n, f.l ++ lits.map fun x => [x]⟩
theorem fits_rows (l : List (List Int)) : fits 1 (l.map rowC) := by intro row h; obtain ⟨x, _, rfl⟩ := List.mem_map.1 h; rfl
set_option maxHeartbeats 1000000 in
theorem with_e (hx : TX ext) (f : Fm) (lits : List Int) (h1 : f.l.length ≤ 10000) (h2 : lits.length ≤ 10000) : G ext 32 [f.av, .d (.sl (lits.map rowI))] [] = some (.ret (withP f lits).av, []) := by
  have hfl : (f.l.map rowC).length = f.l.length := List.length_map _
  have hfit := fits_rows
  have hroom : room (f.l.map rowC).length 24 := by unfold room; simp; omega
  rw [G_body hx.clear rfl Try.func32 rfl Try.results32 hv_32 rfl]
  unfold withP
  simp only [Fm.av]
  simp (config := { maxSteps := 4000000 }) (disch := first | (intros; contradiction) | omega) only [go_sem, hfit, hroom, Nat.zero_add, List.nil_append]
  generalize hL : loopA _ _ _ = L
  apply range_upd hL (by simp (config := { maxSteps := 4000000 }) (disch := first | (intros; contradiction) | omega) only [go_sem] <;> rfl) lits rowI (α := Nat) (fun _ _ _ => True) (fun k e => [(6, .d (.int .i64 k))]) (fun k e => [(3, .grow e 1), (5, .cells [.d (.int .i64 f.n), .grow 3 e ((f.l ++ (lits.take k).map fun x => [x]).map rowC)])]) 1 (by simp (config := { maxSteps := 4000000 }) (disch := first | (intros; contradiction) | omega) only [go_sem, List.take_zero, List.map_nil, List.append_nil] <;> rfl) trivial ?_ ?_
  · rintro x rest k e _ hlt hr hget hk _ next ih
    clear hL
    simp only [rowI] at hr
    have hk0 : (0 : Int) ≤ (k : Int) := by omega
    have hsn : (f.l ++ (lits.take (k + 1)).map fun x => [x]) = (f.l ++ (lits.take k).map fun x => [x]) ++ [[x]] := by rw [List.take_add_one, hget]; simp
    have hle : (f.l ++ (lits.take k).map fun x => [x]).length ≤ 20000 := by simp; omega
    generalize (f.l ++ (lits.take k).map fun x => [x]) = l at hsn hle
    have hll : (l.map rowC).length = l.length := List.length_map _
    have hroom2 : room ((l.map rowC).length + 1) 24 := by unfold room; simp; omega
    simp (config := { maxSteps := 4000000 }) (disch := first | (intros; contradiction) | omega) only [go_sem, hlt, hr, hk0, hroom2, wrap64]
    exact ih (e + 1) _ trivial (by simp (config := { maxSteps := 4000000 }) (disch := first | (intros; contradiction) | omega) only [go_sem, hsn, List.map_append, List.map_cons, List.map_nil, rowC, rowI] <;> rfl)
  · rintro k e _ hlt hk next
    clear hL
    have etk : lits.take k = lits := by rw [hk, List.take_length]
    rw [etk]
    simp (config := { maxSteps := 4000000 }) (disch := first | (intros; contradiction) | omega) only [go_sem, hlt]
def modsF (f : Fm) (n i : Nat) : List (List Bool) := ((List.range i).map (bitsL n)).filter (evalP f)
theorem modsF_succ (f : Fm) (n i : Nat) : modsF f n (i + 1) = modsF f n i ++ if evalP f (bitsL n i) = true then [bitsL n i] else [] := by
  unfold modsF
  rw [List.range_succ, List.map_append, List.filter_append]
  congr 1
  by_cases h : evalP f (bitsL n i) = true
  · simp [h]
  · simp [h]
def firstP (f : Fm) : List (List Bool) := if rightP f = true ∧ f.n ≤ 12 then (modsF f f.n.toNat (2 ^ f.n.toNat)).take 1 else []
theorem modsF_pre (f : Fm) (n : Nat) {i j : Nat} (h : i ≤ j) : ∃ t, modsF f n j = modsF f n i ++ t := by
  induction j with
  | zero =>
    have h0 : i = 0 := by omega
    rw [h0]
    exact ⟨[], by simp⟩
  | succ j ih =>
    by_cases he : i = j + 1
    · subst he; exact ⟨[], by simp⟩
    · obtain ⟨t, ht⟩ := ih (by omega)
      rw [modsF_succ, ht]
      exact ⟨_, List.append_assoc _ _ _⟩
set_option maxHeartbeats 2000000 in
theorem models_e (hx : TX ext) (f : Fm) (hs : Short f) : G ext 15 [f.av, .d (.int .i64 1)] [] = some (.ret (.d (.sl ((firstP f).map rowM))), []) := by
  have hrt := rright_e hx f hs
  unfold firstP
  cases hr : rightP f with
  | false =>
    rw [hr] at hrt
    rw [if_neg (by simp)]
    simp only [Fm.av] at hrt
    rw [G_body hx.clear rfl Try.func15 rfl Try.results15 hv_15 rfl]
    simp only [Fm.av]
    simp (config := { maxSteps := 4000000 }) (disch := first | (intros; contradiction) | omega) only [go_sem, hrt, List.map_nil]
  | true =>
    rw [hr] at hrt
    obtain ⟨h0, _, _⟩ := right_inv hr
    by_cases hn : f.n ≤ 12
    · rw [if_pos ⟨rfl, hn⟩]
      obtain ⟨n, hnn⟩ : ∃ n : Nat, f.n = (n : Int) := ⟨f.n.toNat, by omega⟩
      have hev := fun m => reval_e hx f hs m
      obtain ⟨fn, fl⟩ := f
      simp only at hnn hn h0
      subst hnn
      rw [Int.toNat_natCast]
      have hng : ¬ (12 : Int) < (n : Int) := by omega
      simp only [Fm.av] at hrt hev
      rw [G_body hx.clear rfl Try.func15 rfl Try.results15 hv_15 rfl]
      simp only [Fm.av]
      simp (config := { maxSteps := 4000000 }) (disch := first | (intros; contradiction) | omega) only [go_sem, hrt, hng]
      generalize hL : loopA _ _ _ = L
      apply loop_upd hL (by simp (config := { maxSteps := 4000000 }) (disch := first | (intros; contradiction) | omega) only [go_sem] <;> rfl) (α := Nat) (fun k => k ≤ n) (fun k => n - k) (fun k => [(6, .d (.int .i64 ((2 ^ k : Nat) : Int))), (7, .d (.int .i64 k))]) (fun _ => []) 0 (by simp (config := { maxSteps := 4000000 }) (disch := first | (intros; contradiction) | omega) only [go_sem, Nat.pow_zero] <;> rfl) (Nat.zero_le _) ?_
      intro k hk next ih
      clear hL
      by_cases hkn : k < n
      · have hlt : (k : Int) < (n : Int) := by omega
        have hp : 2 ^ k ≤ 2 ^ 12 := Nat.pow_le_pow_right (by omega) (by omega)
        have hw1 : IntKind.wrap .i64 (((2 ^ k : Nat) : Int) * 2) = ((2 ^ (k + 1) : Nat) : Int) := by
          rw [Nat.pow_succ]
          generalize 2 ^ k = z at hp ⊢
          rw [wrap64 (by omega) (by omega)]
          omega
        have hw2 : IntKind.wrap .i64 ((k : Int) + 1) = ((k + 1 : Nat) : Int) := by rw [wrap64 (by omega) (by omega)]; omega
        generalize 2 ^ k = z at hw1 ⊢
        simp (config := { maxSteps := 4000000 }) (disch := first | (intros; contradiction) | omega) only [go_sem, hlt, hw1, hw2]
        exact ih (k + 1) _ hkn (by omega) (by simp (config := { maxSteps := 4000000 }) (disch := first | (intros; contradiction) | omega) only [go_sem] <;> rfl)
      · have hlt : ¬ (k : Int) < (n : Int) := by omega
        have : k = n := by omega
        subst this
        clear ih
        have hp : 2 ^ k ≤ 2 ^ 12 := Nat.pow_le_pow_right (by omega) (by omega)
        have hmk := fun i => modsF_succ ⟨k, fl⟩ k i
        have hpre := fun i j h => modsF_pre ⟨k, fl⟩ k (i := i) (j := j) h
        generalize hF : modsF ⟨k, fl⟩ k = F at hmk hpre ⊢
        have hF0 : F 0 = [] := by rw [← hF]; rfl
        generalize 2 ^ k = z at hp ⊢
        simp (config := { maxSteps := 4000000 }) (disch := first | (intros; contradiction) | omega) only [go_sem, hlt]
        generalize hL : loopA _ _ _ = L
        apply loop_upd hL (by simp (config := { maxSteps := 4000000 }) (disch := first | (intros; contradiction) | omega) only [go_sem] <;> rfl) (α := Nat × Nat × List (List Bool)) (fun s => s.1 ≤ z ∧ s.2.2 = (F s.1).take 1) (fun s => z - s.1) (fun s => [(5, .grow 2 s.2.1 (s.2.2.map rowM)), (8, .d (.int .i64 s.1)), (9, .any)]) (fun s => [(2, .grow s.2.1 1)]) (0, 0, []) (by simp (config := { maxSteps := 4000000 }) (disch := first | (intros; contradiction) | omega) only [go_sem] <;> rfl) ⟨Nat.zero_le _, by rw [hF0]; rfl⟩ ?_
        rintro ⟨i, e, out⟩ ⟨hi, ho⟩ next2 ih2
        simp only at hi ho ih2 ⊢
        clear hL
        by_cases hiz : i < z
        · have hlt2 : (i : Int) < (z : Int) := by omega
          have hi0 : (0 : Int) ≤ (i : Int) := by omega
          match out, ho with
          | [], ho =>
            have hFi : F i = [] := by
              cases hf : F i with
              | nil => rfl
              | cons x t => rw [hf] at ho; cases ho
            have hmi := hmk i
            rw [hFi, List.nil_append] at hmi
            have hb := bits_e hx i k (by omega) (by omega)
            have he := hev (bitsL k i)
            have hw2 : IntKind.wrap .i64 ((i : Int) + 1) = ((i + 1 : Nat) : Int) := by rw [wrap64 (by omega) (by omega)]; omega
            have hroom : room (0 + 1) 24 := by decide
            cases hb2 : evalP ⟨k, fl⟩ (bitsL k i) with
            | false =>
              rw [hb2] at he hmi
              simp only [Bool.false_eq_true, if_false] at hmi
              simp (config := { maxSteps := 4000000 }) (disch := first | (intros; contradiction) | omega) only [go_sem, hlt2, hb, he, hw2, List.map_nil, List.length_nil]
              exact ih2 (i + 1, e, []) _ ⟨by simp only; omega, by simp only; rw [hmi]; rfl⟩ (by simp only; omega) (by simp (config := { maxSteps := 4000000 }) (disch := first | (intros; contradiction) | omega) only [go_sem, List.map_nil] <;> rfl)
            | true =>
              rw [hb2] at he hmi
              simp only [if_true] at hmi
              generalize bitsL k i = m at hb he hmi
              simp (config := { maxSteps := 4000000 }) (disch := first | (intros; contradiction) | omega) only [go_sem, hlt2, hb, he, hw2, hroom, List.map_nil, List.length_nil, List.nil_append]
              exact ih2 (i + 1, e + 1, [m]) _ ⟨by simp only; omega, by simp only; rw [hmi]; rfl⟩ (by simp only; omega) (by simp (config := { maxSteps := 4000000 }) (disch := first | (intros; contradiction) | omega) only [go_sem, List.map_nil, List.map_cons, rowM] <;> rfl)
          | m :: t, ho =>
            obtain ⟨u, hu⟩ := hpre i z hi
            have hz1 : (F z).take 1 = m :: t := by
              rw [hu, ho]
              cases hf : F i with
              | nil => rw [hf] at ho; cases ho
              | cons x t => rfl
            have ht : t = [] := by
              have := congrArg List.length ho
              rw [List.length_take] at this
              simp only [List.length_cons] at this
              exact List.length_eq_zero_iff.1 (by omega)
            subst ht
            rw [hz1]
            simp (config := { maxSteps := 4000000 }) (disch := first | (intros; contradiction) | omega) only [go_sem, hlt2, List.map_nil, List.map_cons, List.length_cons, List.length_nil]
        · have hlt2 : ¬ (i : Int) < (z : Int) := by omega
          have : i = z := by omega
          subst this
          rw [← ho]
          simp (config := { maxSteps := 4000000 }) (disch := first | (intros; contradiction) | omega) only [go_sem, hlt2]
    · rw [if_neg (fun h => hn h.2)]
      have hng : (12 : Int) < f.n := by omega
      simp only [Fm.av] at hrt
      rw [G_body hx.clear rfl Try.func15 rfl Try.results15 hv_15 rfl]
      simp only [Fm.av]
      simp (config := { maxSteps := 4000000 }) (disch := first | (intros; contradiction) | omega) only [go_sem, hrt, hng, List.map_nil]
end Go.Proofs.Ytchedkjlhjfadaa
namespace Go.Proofs.Ytchedkjlhjfadaa
open Go Go.Ab
theorem trueP_lit (m : List Bool) (x : Int) : trueP m x = litT m x := by
  unfold trueP litT
  have e : (absI x - 1).toNat = x.natAbs - 1 := by unfold absI; split <;> omega
  rw [e]
  generalize (m[x.natAbs - 1]?).getD false = b
  cases b <;> cases decide (0 < x) <;> rfl
theorem asm_sat {n : Nat} {m : List Bool} : ∀ {l : List Int} {r : List (Int × Int)}, (∀ x, x ∈ l → x ≠ 0 ∧ -(n : Int) ≤ x ∧ x ≤ n) → (satR m r && l.all (litT m)) = match asm n r l with | some q => satR m q | none => false
  | [], r, _ => by
    show (satR m r && true) = satR m r
    rw [Bool.and_true]
  | x :: l, r, h => by
    obtain ⟨h0, h1, h2⟩ := h x (by simp)
    have h' : ∀ y, y ∈ l → y ≠ 0 ∧ -(n : Int) ≤ y ∧ y ≤ n := fun y hy => h y (by simp [hy])
    have h3 := truthZ_range (lits3_valR r) x
    rw [List.all_cons]
    by_cases hb : x = 0 ∨ (n : Int) < x ∨ x < 0 - (n : Int) ∨ truthZ (valR r) x < 0
    · have e : asm n r (x :: l) = none := by unfold asm; rw [if_pos hb]
      rw [e]
      have hneg : truthZ (valR r) x = -1 := by
        rcases hb with hb | hb | hb | hb <;> omega
      cases hs : satR m r with
      | false => rfl
      | true =>
        rw [satR_false hs x h0 hneg]
        rfl
    · by_cases hz : truthZ (valR r) x = 0
      · have e : asm n r (x :: l) = asm n ((x, 0) :: r) l := by
          show (if _ then _ else _) = _
          rw [if_neg hb, if_pos hz]
        rw [e, ← asm_sat h']
        simp only [satR, List.all_cons]
        cases litT m x <;> simp
      · have e : asm n r (x :: l) = asm n r l := by
          show (if _ then _ else _) = _
          rw [if_neg hb, if_neg hz]
        have hone : truthZ (valR r) x = 1 := by
          have : ¬ truthZ (valR r) x < 0 := fun e => hb (.inr (.inr (.inr e)))
          omega
        rw [e, ← asm_sat h']
        cases hs : satR m r with
        | false => rfl
        | true => rw [satR_true hs x h0 hone]; rfl
theorem allM_len : ∀ {n : Nat} {m : List Bool}, m ∈ allM n → m.length = n
  | 0, m, h => by
    simp only [allM, List.mem_singleton] at h
    subst h; rfl
  | n + 1, m, h => by
    simp only [allM, List.mem_append, List.mem_map] at h
    rcases h with ⟨x, hx, rfl⟩ | ⟨x, hx, rfl⟩ <;> simp [allM_len hx]
theorem bits_cons (n x : Nat) : bitsL (n + 1) x = decide (x / 2 ^ n % 2 = 1) :: bitsL n (x % 2 ^ n) := by
  unfold bitsL
  rw [List.range_succ_eq_map, List.map_cons, List.map_map]
  congr 1
  apply List.map_congr_left
  intro i hi
  have hi := List.mem_range.1 hi
  simp only [Function.comp]
  have e : n + 1 - 1 - (i + 1) = n - 1 - i := by omega
  rw [e]
  congr 2
  have hd : 2 ^ n = 2 ^ (n - 1 - i) * 2 ^ (i + 1) := by rw [← Nat.pow_add]; congr 1; omega
  have h2 : 2 ^ (i + 1) = 2 * 2 ^ i := by rw [Nat.pow_succ]; omega
  rw [hd, Nat.mod_mul_right_div_self, h2, Nat.mod_mul_right_mod]
theorem allM_bits : ∀ n : Nat, allM n = (List.range (2 ^ n)).map (bitsL n)
  | 0 => rfl
  | n + 1 => by
    have hp : 2 ^ (n + 1) = 2 ^ n + 2 ^ n := by rw [Nat.pow_succ]; omega
    have h0 : 0 < 2 ^ n := Nat.pow_pos (by omega)
    simp only [allM]
    rw [hp, List.range_add, List.map_append, allM_bits n, List.map_map, List.map_map, List.map_map]
    congr 1
    · apply List.map_congr_left
      intro x hx
      have hx := List.mem_range.1 hx
      simp only [Function.comp]
      rw [bits_cons, Nat.div_eq_of_lt hx, Nat.mod_eq_of_lt hx]
      rfl
    · apply List.map_congr_left
      intro x hx
      have hx := List.mem_range.1 hx
      simp only [Function.comp]
      rw [bits_cons, Nat.add_div_left _ h0, Nat.div_eq_of_lt hx, Nat.add_mod_left, Nat.mod_eq_of_lt hx]
      rfl
end Go.Proofs.Ytchedkjlhjfadaa
