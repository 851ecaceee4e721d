/- Texts of tokens, names, and which tokens are the same. Conditions: none. -/
import Derived.Test.YtknonjnbeajooaaT12
import Derived.Test.YtknonjnbeajooaaTExt2
namespace Go.Proofs.Ytknonjnbeajooaa
open Go Go.Ab
variable {ext : Sem'}
def texts (l : List Tok) : List (List UInt8) := (l.filter fun t => decide (t.kind ≠ 5)).map (·.text)
def textL (l : List Tok) : List UInt8 := joinL [32] (texts l)
theorem texts_len (l : List Tok) : (texts l).length ≤ l.length := by unfold texts; rw [List.length_map]; exact List.length_filter_le _ _
theorem texts_take {l : List Tok} {i : Nat} {t : Tok} (h : l[i]? = some t) : texts (l.take (i + 1)) = if t.kind = 5 then texts (l.take i) else texts (l.take i) ++ [t.text] := by
  unfold texts
  rw [List.take_add_one, h, List.filter_append]
  by_cases hk : t.kind = 5
  · rw [if_pos hk]; simp [hk]
  · rw [if_neg hk]; simp [hk]
theorem rowsT_at {l : List Tok} {i : Nat} (h : i < l.length) : (rowsT l)[i]? = some (Tok.row l[i]) := by unfold rowsT; rw [List.getElem?_map, List.getElem?_eq_getElem h]; rfl
theorem rowsT_len (l : List Tok) : (rowsT l).length = l.length := List.length_map _
theorem text_e (hx : TXJ ext) (l : List Tok) (hl : l.length ≤ 1048576) (hj : (textL l).length ≤ 140737488355328) : G ext 11 [.d (.sl (rowsT l))] [] = some (.ret (.d (.str (textL l))), []) := by
  have hrl := rowsT_len l
  rw [G_body hx.clear rfl Try.func11 rfl Try.results11 hv_11 rfl]
  simp (config := { maxSteps := 4000000 }) (disch := first | (intros; contradiction) | omega) only [go_sem]
  generalize hL : loopA _ _ _ = L
  apply loop_post hL (fun i : Nat => i ≤ l.length) (fun i => l.length - i)
    (fun i => ⟨[(0, .d (.sl (rowsT l))), (2, .d (.str [])), (3, .grow 0 (texts (l.take i)).length ((texts (l.take i)).map fun x => [.str x])), (5, .any), (6, .d (.sl (rowsT l))), (7, .d (.int .i64 (rowsT l).length)), (8, .d (.int .i64 i))], [], [.grow (texts (l.take i)).length 1]⟩)
    0 (by simp (config := { maxSteps := 4000000 }) (disch := first | (intros; contradiction) | omega) only [go_sem] <;> rfl) (Nat.zero_le _)
  intro i hi next ih
  by_cases h : i < l.length
  · have hlt : (i : Int) < ((rowsT l).length : Int) := by omega
    have hrow := rowsT_at h
    have htt := texts_take (List.getElem?_eq_getElem h)
    have htl := texts_len (l.take i)
    rw [List.length_take] at htl
    have hroom : room (((texts (l.take i)).map fun x => ([.str x] : List Dt)).length + 1) 16 := by unfold room; simp; omega
    generalize l[i] = t at hrow htt
    simp only [Tok.row] at hrow
    by_cases hk : t.kind = 5
    · rw [if_pos hk] at htt
      simp (config := { maxSteps := 4000000 }) (disch := first | (intros; contradiction) | omega) only [go_sem, hlt, hrow, hk, wrap64]
      exact ih (i + 1) _ h (by omega) (by rw [htt]; simp (config := { maxSteps := 4000000 }) (disch := first | (intros; contradiction) | omega) only [go_sem] <;> rfl)
    · rw [if_neg hk] at htt
      simp (config := { maxSteps := 4000000 }) (disch := first | (intros; contradiction) | omega) only [go_sem, hlt, hrow, hk, hroom, wrap64]
      exact ih (i + 1) _ h (by omega) (by rw [htt]; simp (config := { maxSteps := 4000000 }) (disch := first | (intros; contradiction) | omega) only [go_sem, List.map_append, List.map_cons, List.map_nil, List.length_append, List.length_cons, List.length_nil] <;> rfl)
  · have hlt : ¬ (i : Int) < ((rowsT l).length : Int) := by omega
    have he : i = l.length := by omega
    subst he
    rw [List.take_length]
    have hjn := hx.join (texts l) [32] [] (by have := texts_len l; omega) hj
    have hjn := G_ext hjn
    simp (config := { maxSteps := 4000000 }) (disch := first | (intros; contradiction) | omega) only [go_sem, hlt, hjn]
    rfl
def sameT (a b : Tok) : Bool := decide (a.kind = b.kind) && (decide (a.text = b.text) && decide (a.num = b.num))
def sameL : List Tok → List Tok → Bool
  | [], [] => true
  | a :: l, b :: m => sameT a b && sameL l m
  | _, _ => false
theorem same1_e (hx : TX ext) (a b : Tok) : G ext 27 [a.av, b.av] [] = some (.ret (.d (.bool (sameT a b))), []) := by
  rw [G_body hx.clear rfl Try.func27 rfl Try.results27 hv_27 rfl]
  simp only [Tok.av, sameT]
  by_cases h1 : a.kind = b.kind <;> by_cases h2 : a.text = b.text <;> by_cases h3 : a.num = b.num <;> (simp (config := { maxSteps := 4000000 }) (disch := first | (intros; contradiction) | omega) only [go_sem, h1, h2, h3, Bool.and_true, Bool.and_false])
theorem sameL_len : ∀ {l m : List Tok}, sameL l m = true → l.length = m.length
  | [], [], _ => rfl
  | a :: l, b :: m, h => by simp only [sameL, Bool.and_eq_true] at h; simp [sameL_len h.2]
  | [], _ :: _, h => by cases h
  | _ :: _, [], h => by cases h
theorem equal_e (hx : TX ext) (l m : List Tok) (hl : l.length ≤ 1048577) : G ext 26 [.d (.sl (rowsT l)), .d (.sl (rowsT m)), .fn 27 [] []] [] = some (.ret (.d (.bool (sameL l m))), []) := by
  have hrl := rowsT_len l
  have hrm := rowsT_len m
  rw [G_body hx.clear rfl Try.func26 rfl Try.results26 hv_26 rfl]
  by_cases hlen : ((rowsT l).length : Int) = ((rowsT m).length : Int)
  · simp (config := { maxSteps := 4000000 }) (disch := first | (intros; contradiction) | omega) only [go_sem, hlen]
    generalize hL : loopA _ _ _ = L
    apply loop_post hL (fun i : Nat => i ≤ l.length ∧ sameL l m = sameL (l.drop i) (m.drop i)) (fun i => l.length - i)
      (fun i => ⟨[(0, .d (.sl (rowsT l))), (1, .d (.sl (rowsT m))), (2, .fn 27 [] []), (6, .d (.bool false)), (7, .any), (8, .any), (9, .any), (15, .d (.sl (rowsT l))), (16, .d (.int .i64 (rowsT m).length)), (17, .d (.int .i64 i))], [], []⟩)
      0 (by simp (config := { maxSteps := 4000000 }) (disch := first | (intros; contradiction) | omega) only [go_sem] <;> rfl) ⟨Nat.zero_le _, by simp⟩
    rintro i ⟨hi, hs⟩ next ih
    by_cases h : i < l.length
    · have hm : i < m.length := by omega
      have hlt : (i : Int) < ((rowsT m).length : Int) := by omega
      have hr1 := rowsT_at h
      have hr2 := rowsT_at hm
      rw [List.drop_eq_getElem_cons h, List.drop_eq_getElem_cons hm] at hs
      simp only [sameL] at hs
      have hc := same1_e hx l[i] m[i]
      generalize l[i] = a at hr1 hs hc
      generalize m[i] = b at hr2 hs hc
      simp only [Tok.row] at hr1 hr2
      simp only [Tok.av] at hc
      cases hab : sameT a b with
      | true =>
        rw [hab] at hs hc
        simp (config := { maxSteps := 4000000 }) (disch := first | (intros; contradiction) | omega) only [go_sem, hlt, hr1, hr2, hc, wrap64]
        exact ih (i + 1) _ ⟨h, by simpa using hs⟩ (by omega) (by simp (config := { maxSteps := 4000000 }) (disch := first | (intros; contradiction) | omega) only [go_sem] <;> rfl)
      | false =>
        rw [hab] at hs hc
        rw [hs]
        simp (config := { maxSteps := 4000000 }) (disch := first | (intros; contradiction) | omega) only [go_sem, hlt, hr1, hr2, hc, Bool.false_and]
    · have hlt : ¬ (i : Int) < ((rowsT m).length : Int) := by omega
      rw [List.drop_eq_nil_of_le (show l.length ≤ i by omega), List.drop_eq_nil_of_le (show m.length ≤ i by omega)] at hs
      rw [hs]
      simp (config := { maxSteps := 4000000 }) (disch := first | (intros; contradiction) | omega) only [go_sem, hlt, sameL]
  · have hf : sameL l m = false := by
      cases h : sameL l m with
      | false => rfl
      | true => exact absurd (sameL_len h) (by omega)
    rw [hf]
    simp (config := { maxSteps := 4000000 }) (disch := first | (intros; contradiction) | omega) only [go_sem, hlen]
theorem same_e (hx : TX ext) (l m : List Tok) (hl : l.length ≤ 1048577) : G ext 12 [.d (.sl (rowsT l)), .d (.sl (rowsT m))] [] = some (.ret (.d (.bool (sameL l m))), []) := by
  rw [G_body hx.clear rfl Try.func12 rfl Try.results12 hv_12 rfl]
  simp (config := { maxSteps := 4000000 }) (disch := first | (intros; contradiction) | omega) only [go_sem, equal_e hx l m hl]
set_option maxHeartbeats 1000000 in
theorem rsame_e (hx : TX ext) (l m : List Tok) (hl : l.length ≤ 1048577) : G ext 18 [.d (.sl (rowsT l)), .d (.sl (rowsT m))] [] = some (.ret (.d (.bool (sameL l m))), []) := by
  have hrl := rowsT_len l
  have hrm := rowsT_len m
  rw [G_body hx.clear rfl Try.func18 rfl Try.results18 hv_18 rfl]
  by_cases hlen : ((rowsT l).length : Int) = ((rowsT m).length : Int)
  · simp (config := { maxSteps := 4000000 }) (disch := first | (intros; contradiction) | omega) only [go_sem, hlen]
    generalize hL : loopA _ _ _ = L
    apply loop_post hL (fun i : Nat => i ≤ l.length ∧ sameL l m = sameL (l.drop i) (m.drop i)) (fun i => l.length - i)
      (fun i => ⟨[(0, .d (.sl (rowsT l))), (1, .d (.sl (rowsT m))), (4, .d (.bool false)), (5, .d (.int .i64 i))], [], []⟩)
      0 (by simp (config := { maxSteps := 4000000 }) (disch := first | (intros; contradiction) | omega) only [go_sem] <;> rfl) ⟨Nat.zero_le _, by simp⟩
    rintro i ⟨hi, hs⟩ next ih
    by_cases h : i < l.length
    · have hm : i < m.length := by omega
      have hlt : (i : Int) < ((rowsT m).length : Int) := by omega
      have hr1 := rowsT_at h
      have hr2 := rowsT_at hm
      rw [List.drop_eq_getElem_cons h, List.drop_eq_getElem_cons hm] at hs
      simp only [sameL, sameT] at hs
      generalize l[i] = a at hr1 hs
      generalize m[i] = b at hr2 hs
      simp only [Tok.row] at hr1 hr2
      by_cases e1 : a.kind = b.kind
      · by_cases e2 : a.text = b.text
        · by_cases e3 : a.num = b.num
          · simp only [e1, e2, e3, decide_true, Bool.true_and] at hs
            rw [← e1, ← e2, ← e3] at hr2
            simp (config := { maxSteps := 4000000 }) (disch := first | (intros; contradiction) | omega) only [go_sem, hlen, hlt, hr1, hr2, wrap64]
            exact ih (i + 1) _ ⟨h, hs⟩ (by omega) (by simp (config := { maxSteps := 4000000 }) (disch := first | (intros; contradiction) | omega) only [go_sem] <;> rfl)
          · simp only [e3, decide_false, Bool.and_false, Bool.false_and] at hs
            rw [hs]
            rw [← e1, ← e2] at hr2
            simp (config := { maxSteps := 4000000 }) (disch := first | (intros; contradiction) | omega) only [go_sem, hlen, hlt, hr1, hr2, e3]
        · simp only [e2, decide_false, Bool.and_false, Bool.false_and] at hs
          rw [hs]
          rw [← e1] at hr2
          simp (config := { maxSteps := 4000000 }) (disch := first | (intros; contradiction) | omega) only [go_sem, hlen, hlt, hr1, hr2, e2]
      · simp only [e1, decide_false, Bool.false_and] at hs
        rw [hs]
        simp (config := { maxSteps := 4000000 }) (disch := first | (intros; contradiction) | omega) only [go_sem, hlen, hlt, hr1, hr2, e1]
    · have hlt : ¬ (i : Int) < ((rowsT m).length : Int) := by omega
      rw [List.drop_eq_nil_of_le (show l.length ≤ i by omega), List.drop_eq_nil_of_le (show m.length ≤ i by omega)] at hs
      rw [hs]
      simp (config := { maxSteps := 4000000 }) (disch := first | (intros; contradiction) | omega) only [go_sem, hlen, hlt, sameL]
  · have hf : sameL l m = false := by
      cases h : sameL l m with
      | false => rfl
      | true => exact absurd (sameL_len h) (by omega)
    rw [hf]
    simp (config := { maxSteps := 4000000 }) (disch := first | (intros; contradiction) | omega) only [go_sem, hlen]
theorem textL_take_le (l : List Tok) (i : Nat) : (textL (l.take i)).length ≤ (textL l).length := by
  have := joinL_le [32] (texts (l.take i)) (texts (l.drop i))
  unfold textL
  have e : texts l = texts (l.take i) ++ texts (l.drop i) := by
    unfold texts
    rw [← List.map_append, ← List.filter_append, List.take_append_drop]
  rw [e]
  exact this
set_option maxHeartbeats 1000000 in
theorem rtext_e (hx : TX ext) (l : List Tok) (hl : l.length ≤ 3001) (hj : (textL l).length ≤ 1048576) : G ext 17 [.d (.sl (rowsT l))] [] = some (.ret (.d (.str (textL l))), []) := by
  have hrl := rowsT_len l
  rw [G_body hx.clear rfl Try.func17 rfl Try.results17 hv_17 rfl]
  simp (config := { maxSteps := 4000000 }) (disch := first | (intros; contradiction) | omega) only [go_sem]
  generalize hL : loopA _ _ _ = L
  apply loop_post hL (fun i : Nat => i ≤ l.length) (fun i => l.length - i)
    (fun i => ⟨[(0, .d (.sl (rowsT l))), (2, .d (.str [])), (3, .d (.str (textL (l.take i)))), (4, .d (.int .i64 (texts (l.take i)).length)), (5, .d (.int .i64 i))], [], []⟩)
    0 (by simp (config := { maxSteps := 4000000 }) (disch := first | (intros; contradiction) | omega) only [go_sem] <;> rfl) (Nat.zero_le _)
  intro i hi next ih
  by_cases h : i < l.length
  · have hlt : (i : Int) < ((rowsT l).length : Int) := by omega
    have hrow := rowsT_at h
    have htt := texts_take (List.getElem?_eq_getElem h)
    have htl := texts_len (l.take i)
    rw [List.length_take] at htl
    have hle : (joinL [32] (texts (l.take (i + 1)))).length ≤ (textL l).length := textL_take_le l (i + 1)
    have hle0 := textL_take_le l i
    generalize l[i] = t at hrow htt
    simp only [Tok.row] at hrow
    by_cases hk : t.kind = 5
    · rw [if_pos hk] at htt
      simp (config := { maxSteps := 4000000 }) (disch := first | (intros; contradiction) | omega) only [go_sem, hlt, hrow, hk, wrap64]
      exact ih (i + 1) _ h (by omega) (by unfold textL; rw [htt]; simp (config := { maxSteps := 4000000 }) (disch := first | (intros; contradiction) | omega) only [go_sem] <;> rfl)
    · rw [if_neg hk] at htt
      rw [htt, joinL_snoc] at hle
      by_cases h0 : texts (l.take i) = []
      · rw [if_pos h0] at hle
        have hn : ¬ (0 : Int) < ((texts (l.take i)).length : Int) := by rw [h0]; simp
        have he : textL (l.take i) = [] := by unfold textL; rw [h0]; rfl
        have hc1 : t.text.length ≤ 9223372036854775807 := by omega
        simp (config := { maxSteps := 4000000 }) (disch := first | (intros; contradiction) | omega) only [go_sem, hlt, hrow, hk, hn, he, hc1, List.nil_append, wrap64]
        exact ih (i + 1) _ h (by omega) (by unfold textL; rw [htt, joinL_snoc, if_pos h0]; simp (config := { maxSteps := 4000000 }) (disch := first | (intros; contradiction) | omega) only [go_sem, List.length_append, List.length_cons, List.length_nil] <;> rfl)
      · rw [if_neg h0] at hle
        have hn : (0 : Int) < ((texts (l.take i)).length : Int) := by have := List.length_pos_iff.2 h0; omega
        have hc1 : (textL (l.take i)).length ≤ 9223372036854775806 := by omega
        have hc2 : (textL (l.take i)).length + 1 + t.text.length ≤ 9223372036854775807 := by unfold textL; simp only [List.length_append, List.length_cons, List.length_nil] at hle; omega
        simp (config := { maxSteps := 4000000 }) (disch := first | (intros; contradiction) | omega) only [go_sem, hlt, hrow, hk, hn, hc1, hc2, List.length_append, List.length_cons, List.length_nil, wrap64]
        exact ih (i + 1) _ h (by omega) (by unfold textL; rw [htt, joinL_snoc, if_neg h0]; simp (config := { maxSteps := 4000000 }) (disch := first | (intros; contradiction) | omega) only [go_sem, List.length_append, List.length_cons, List.length_nil] <;> rfl)
  · have hlt : ¬ (i : Int) < ((rowsT l).length : Int) := by omega
    have he : i = l.length := by omega
    subst he
    rw [List.take_length]
    simp (config := { maxSteps := 4000000 }) (disch := first | (intros; contradiction) | omega) only [go_sem, hlt]
def isName (s : List UInt8) : Bool := decide (1 ≤ s.length) && (decide (s.length ≤ 40) && (letterAt s 0 && (decide (spanL isInner s = s.length) && !decide (s ∈ words))))
theorem name_e (hx : TX ext) (s : List UInt8) (hs : s.length ≤ 1048576) : G ext 15 [.d (.str s)] [] = some (.ret (.d (.bool (isName s))), []) := by
  rw [G_body hx.clear rfl Try.func15 rfl Try.results15 hv_15 rfl]
  cases s with
  | nil => simp (config := { maxSteps := 4000000 }) (disch := first | (intros; contradiction) | omega) only [go_sem, isName] <;> rfl
  | cons c t =>
    have hsp := span_e hx isInner 31 (inner_e hx) (c :: t) hs
    have hw := word_e hx (c :: t)
    have hlc := letter_e hx c
    have h0 : ¬ ((c :: t) = ([] : List UInt8)) := by simp
    have h1 : ((c :: t) : List UInt8)[0]? = some c := rfl
    unfold isName
    have e0 : decide (1 ≤ (c :: t).length) = true := by simp
    have e1 : letterAt (c :: t) 0 = isLetter c := rfl
    rw [e0, e1]
    generalize c :: t = s at *
    by_cases c1 : (s.length : Int) ≤ 40
    · have c1' : s.length ≤ 40 := by omega
      rw [decide_eq_true c1']
      cases c2 : isLetter c
      · rw [c2] at hlc
        simp (config := { maxSteps := 4000000 }) (disch := first | (intros; contradiction) | omega) only [go_sem, h0, h1, c1, hlc, Bool.false_and, Bool.true_and]
      · rw [c2] at hlc
        by_cases c3 : spanL isInner s = s.length
        · rw [c3] at hsp
          rw [decide_eq_true c3]
          simp (config := { maxSteps := 4000000 }) (disch := first | (intros; contradiction) | omega) only [go_sem, h0, h1, c1, hlc, hsp, hw, Bool.true_and]
        · have c3' : ¬ ((spanL isInner s : Nat) : Int) = (s.length : Int) := by omega
          rw [decide_eq_false c3]
          simp (config := { maxSteps := 4000000 }) (disch := first | (intros; contradiction) | omega) only [go_sem, h0, h1, c1, hlc, hsp, c3', Bool.false_and, Bool.and_false]
    · have c1' : ¬ s.length ≤ 40 := by omega
      rw [decide_eq_false c1']
      simp (config := { maxSteps := 4000000 }) (disch := first | (intros; contradiction) | omega) only [go_sem, h0, c1, Bool.false_and, Bool.and_false]
theorem rname_e (hx : TX ext) (s : List UInt8) (hs : s.length ≤ 1048576) : G ext 16 [.d (.str s)] [] = some (.ret (.d (.bool (isName s))), []) := by
  rw [G_body hx.clear rfl Try.func16 rfl Try.results16 hv_16 rfl]
  cases s with
  | nil => simp (config := { maxSteps := 4000000 }) (disch := first | (intros; contradiction) | omega) only [go_sem, isName] <;> rfl
  | cons c t =>
    have hw := rword_e hx (c :: t)
    have hlc := rletter_e hx c
    have h1 : ((c :: t) : List UInt8)[0]? = some c := rfl
    have h2 : ¬ ((c :: t).length : Int) < 1 := by rw [List.length_cons]; omega
    unfold isName
    have e0 : decide (1 ≤ (c :: t).length) = true := by simp
    have e1 : letterAt (c :: t) 0 = isLetter c := rfl
    rw [e0, e1]
    generalize c :: t = s at *
    by_cases c1 : (40 : Int) < s.length
    · have c1' : ¬ s.length ≤ 40 := by omega
      rw [decide_eq_false c1']
      simp (config := { maxSteps := 4000000 }) (disch := first | (intros; contradiction) | omega) only [go_sem, h2, c1, Bool.false_and, Bool.and_false]
    · have c1' : s.length ≤ 40 := by omega
      rw [decide_eq_true c1']
      cases c2 : isLetter c
      · rw [c2] at hlc
        simp (config := { maxSteps := 4000000 }) (disch := first | (intros; contradiction) | omega) only [go_sem, h1, h2, c1, hlc, Bool.false_and, Bool.true_and]
      · rw [c2] at hlc
        cases c4 : decide (s ∈ words)
        · rw [c4] at hw
          simp (config := { maxSteps := 4000000 }) (disch := first | (intros; contradiction) | omega) only [go_sem, h1, h2, c1, hlc, hw, Bool.true_and]
          generalize hL : loopA _ _ _ = L
          apply loop_post hL (fun i : Nat => i ≤ s.length ∧ i + spanL isInner (s.drop i) = spanL isInner s) (fun i => s.length - i)
            (fun i => ⟨[(0, .d (.str s)), (2, .d (.bool false)), (3, .d (.int .i64 i))], [], []⟩)
            0 (by simp (config := { maxSteps := 4000000 }) (disch := first | (intros; contradiction) | omega) only [go_sem] <;> rfl) ⟨Nat.zero_le _, by simp⟩
          clear hL h1 h2 hlc
          rintro i ⟨hi, hsp⟩ next ih
          by_cases h : i < s.length
          · obtain ⟨hc, _, hlt⟩ := dropC h
            have hd := spanL_drop (p := isInner) h
            have hl := rletter_e hx s[i]
            have hg := rdigit_e hx s[i]
            cases c5 : isLetter s[i]
            · rw [c5] at hl
              cases c6 : isDigit s[i]
              · rw [c6] at hg
                have c7 : isInner s[i] = false := by simp [isInner, c5, c6]
                rw [c7] at hd
                have hne : ¬ spanL isInner s = s.length := by simp at hd; omega
                rw [decide_eq_false hne]
                simp (config := { maxSteps := 4000000 }) (disch := first | (intros; contradiction) | omega) only [go_sem, hlt, hc, hl, hg]
              · rw [c6] at hg
                have c7 : isInner s[i] = true := by simp [isInner, c6]
                rw [c7] at hd
                simp (config := { maxSteps := 4000000 }) (disch := first | (intros; contradiction) | omega) only [go_sem, hlt, hc, hl, hg, wrap64]
                exact ih (i + 1) _ ⟨h, by simp at hd; omega⟩ (by omega) (by simp (config := { maxSteps := 4000000 }) (disch := first | (intros; contradiction) | omega) only [go_sem] <;> rfl)
            · rw [c5] at hl
              have c7 : isInner s[i] = true := by simp [isInner, c5]
              rw [c7] at hd
              simp (config := { maxSteps := 4000000 }) (disch := first | (intros; contradiction) | omega) only [go_sem, hlt, hc, hl, wrap64]
              exact ih (i + 1) _ ⟨h, by simp at hd; omega⟩ (by omega) (by simp (config := { maxSteps := 4000000 }) (disch := first | (intros; contradiction) | omega) only [go_sem] <;> rfl)
          · have hlt : ¬ (i : Int) < (s.length : Int) := by omega
            have he : i = s.length := by omega
            subst he
            rw [List.drop_eq_nil_of_le (Nat.le_refl _)] at hsp
            rw [decide_eq_true (show spanL isInner s = s.length by simp [spanL] at hsp; omega)]
            simp (config := { maxSteps := 4000000 }) (disch := first | (intros; contradiction) | omega) only [go_sem, hlt, Bool.true_and]
        · rw [c4] at hw
          simp (config := { maxSteps := 4000000 }) (disch := first | (intros; contradiction) | omega) only [go_sem, h1, h2, c1, hlc, hw, Bool.and_false]
theorem eqlBool {P : Program} {t : TypeId} {a b : Bool} : binA P .eql t (.d (.bool a)) (.d (.bool b)) = yesO (eqA P 12 t (.d (.bool a)) (.d (.bool b))) := rfl
theorem joinL_bound (sep : List UInt8) (k : Nat) : ∀ xs : List (List UInt8), (∀ x, x ∈ xs → x.length ≤ k) → (joinL sep xs).length ≤ xs.length * (k + sep.length)
  | [], _ => by simp [joinL]
  | [x], h => by have := h x (by simp); simp only [joinL, List.length_cons, List.length_nil]; omega
  | x :: y :: l, h => by
    have h1 := h x (by simp)
    have h2 := joinL_bound sep k (y :: l) (fun z hz => h z (List.mem_cons_of_mem _ hz))
    simp only [joinL, List.length_append, List.length_cons] at h2 ⊢
    rw [Nat.add_mul (l.length + 1) 1]
    omega
set_option maxHeartbeats 1000000 in
theorem law6_e (hx : TXJ ext) (s : List UInt8) (l m : List Tok) (hs : s.length ≤ 9223372036854775807) (hl : l.length ≤ 9223372036854775807) : G ext 6 [.d (.str s), .d (.sl (rowsT l)), .d (.sl (rowsT m))] [] = some (.ret (.d (.bool true)), []) := by
  have hrl := rowsT_len l
  have hrm := rowsT_len m
  rw [G_body hx.clear rfl Try.func6 rfl Try.results6 hv_6 rfl]
  by_cases c1 : (100 : Int) < s.length
  · simp (config := { maxSteps := 4000000 }) (disch := first | (intros; contradiction) | omega) only [go_sem, alive_e hx.toTX, c1]
  · by_cases c2 : (30 : Int) < ((rowsT l).length : Int)
    · simp (config := { maxSteps := 4000000 }) (disch := first | (intros; contradiction) | omega) only [go_sem, alive_e hx.toTX, c1, c2]
    · by_cases c3 : (30 : Int) < ((rowsT m).length : Int)
      · simp (config := { maxSteps := 4000000 }) (disch := first | (intros; contradiction) | omega) only [go_sem, alive_e hx.toTX, c1, c2, c3]
      · simp (config := { maxSteps := 4000000 }) (disch := first | (intros; contradiction) | omega) only [go_sem, c1, c2, c3]
        generalize hL : loopA _ _ _ = L
        apply loop_post hL (fun i : Nat => i ≤ l.length ∧ ∀ t, t ∈ l.take i → t.text.length ≤ 60) (fun i => l.length - i)
          (fun i => ⟨[(0, .d (.str s)), (1, .d (.sl (rowsT l))), (2, .d (.sl (rowsT m))), (6, .d (.bool false)), (7, .d (.int .i64 i))], [], []⟩)
          0 (by simp (config := { maxSteps := 4000000 }) (disch := first | (intros; contradiction) | omega) only [go_sem] <;> rfl) ⟨Nat.zero_le _, by simp⟩
        clear hL
        rintro i ⟨hi, ht⟩ next ih
        by_cases h : i < l.length
        · have hlt : (i : Int) < ((rowsT l).length : Int) := by omega
          have hr1 := rowsT_at h
          have hget : l[i]? = some l[i] := List.getElem?_eq_getElem h
          generalize l[i] = t at hr1 hget
          simp only [Tok.row] at hr1
          by_cases c4 : (60 : Int) < t.text.length
          · simp (config := { maxSteps := 4000000 }) (disch := first | (intros; contradiction) | omega) only [go_sem, alive_e hx.toTX, hlt, hr1, c4]
          · simp (config := { maxSteps := 4000000 }) (disch := first | (intros; contradiction) | omega) only [go_sem, hlt, hr1, c4, wrap64]
            exact ih (i + 1) _ ⟨h, fun x hx => by
              rw [List.take_add_one, hget] at hx
              simp at hx
              rcases hx with hx | rfl
              · exact ht x hx
              · omega⟩ (by omega) (by simp (config := { maxSteps := 4000000 }) (disch := first | (intros; contradiction) | omega) only [go_sem] <;> rfl)
        · have hlt : ¬ (i : Int) < ((rowsT l).length : Int) := by omega
          have he : i = l.length := by omega
          subst he
          rw [List.take_length] at ht
          have hb := joinL_bound [32] 60 (texts l) (fun x hx => by
            unfold texts at hx
            obtain ⟨t, h1, rfl⟩ := List.mem_map.1 hx
            exact ht t (List.mem_filter.1 h1).1)
          have htl := texts_len l
          have hb2 : (textL l).length ≤ 1830 := Nat.le_trans hb (by simp; omega)
          simp (config := { maxSteps := 4000000 }) (disch := first | (intros; contradiction) | omega) only [go_sem, hlt, alive_e hx.toTX, word_e hx.toTX s, rword_e hx.toTX s, name_e hx.toTX s, rname_e hx.toTX s, text_e hx l, rtext_e hx.toTX l, same_e hx.toTX l m, rsame_e hx.toTX l m, eqlBool, decide_true]
end Go.Proofs.Ytknonjnbeajooaa
