/- token: blanks, comments, words. Conditions: none. -/
import Derived.Test.YtknonjnbeajooaaT2
namespace Go.Proofs.Ytknonjnbeajooaa
open Go Go.Ab
variable {ext : Sem'}
def isBlank (c : UInt8) : Bool := c == 32 || c == 9 || c == 10
/-- How many bytes are blanks and comments; 'true': within a comment. -/
def skipN : Bool → List UInt8 → Nat
  | _, [] => 0
  | false, c :: t => if isBlank c then 1 + skipN false t else if c = 47 ∧ t.head? = some 47 then 1 + skipN true t else 0
  | true, c :: t => if c = 10 then 1 + skipN false t else 1 + skipN true t
theorem skipN_le (m : Bool) (l : List UInt8) : skipN m l ≤ l.length := by
  induction l generalizing m with
  | nil => cases m <;> simp [skipN]
  | cons c t ih =>
    have h1 := ih true
    have h2 := ih false
    cases m
    · simp only [skipN, List.length_cons]; split
      · omega
      · split <;> omega
    · simp only [skipN, List.length_cons]; split <;> omega
theorem skipN_true (l : List UInt8) : skipN true l = spanL (fun c => decide (c ≠ 10)) l + skipN false (l.drop (spanL (fun c => decide (c ≠ 10)) l)) := by
  induction l with
  | nil => rfl
  | cons c t ih =>
    by_cases h : c = 10
    · subst h
      have : spanL (fun c => decide (c ≠ 10)) (10 :: t) = 0 := by simp [spanL]
      rw [this]
      simp [skipN, isBlank]
    · have : spanL (fun c => decide (c ≠ 10)) (c :: t) = spanL (fun c => decide (c ≠ 10)) t + 1 := by simp [spanL, h]
      rw [this]
      simp only [skipN, h, if_false, List.drop_succ_cons]
      rw [ih]
      omega
theorem skipN_comment (t : List UInt8) : skipN false (47 :: 47 :: t) = spanL (fun c => decide (c ≠ 10)) (47 :: 47 :: t) + skipN false ((47 :: 47 :: t).drop (spanL (fun c => decide (c ≠ 10)) (47 :: 47 :: t))) := by
  rw [← skipN_true]
  simp [skipN, isBlank]
def slash2 (l : List UInt8) : Bool := decide (l.take 2 = [47, 47])
theorem stringslite_e (hx : TX ext) (s : List UInt8) : G ext 46 [.d (.str s), .d (.str [47, 47])] [] = some (.ret (.d (.bool (slash2 s))), []) := by
  rw [G_body hx.clear rfl Try.func46 rfl Try.results46 hv_46 rfl]
  by_cases h : (2 : Int) ≤ s.length
  · simp (config := { maxSteps := 4000000 }) (disch := first | (intros; contradiction) | omega) only [go_sem, h, slash2]
  · have hf : slash2 s = false := by
      unfold slash2
      simp only [decide_eq_false_iff_not]
      intro e
      have := congrArg List.length e
      simp at this
      omega
    simp (config := { maxSteps := 4000000 }) (disch := first | (intros; contradiction) | omega) only [go_sem, h, hf]
theorem hasPrefix_e (hx : TX ext) (s : List UInt8) : G ext 36 [.d (.str s), .d (.str [47, 47])] [] = some (.ret (.d (.bool (slash2 s))), []) := by
  rw [G_body hx.clear rfl Try.func36 rfl Try.results36 hv_36 rfl]
  simp (config := { maxSteps := 4000000 }) (disch := first | (intros; contradiction) | omega) only [go_sem, stringslite_e hx]
theorem skip_e (hx : TX ext) (s : List UInt8) (p : Int × Int) (hs : s.length ≤ 1048576) (hp : 1 ≤ p.1 ∧ p.1 + s.length ≤ 4000000 ∧ 1 ≤ p.2 ∧ p.2 + s.length ≤ 4000000) :
    G ext 23 [.ptr 0 0] [.cells [.d (.str s), .d (.int .i64 p.1), .d (.int .i64 p.2)]] = some (.ret (.tuple []), [.cells [.d (.str (s.drop (skipN false s))), .d (.int .i64 (adv p (s.take (skipN false s))).1), .d (.int .i64 (adv p (s.take (skipN false s))).2)]]) := by
  rw [G_body hx.clear rfl Try.func23 rfl Try.results23 hv_23 rfl]
  simp (config := { maxSteps := 4000000 }) (disch := first | (intros; contradiction) | omega) only [go_sem]
  generalize hL : loopA _ _ _ = L
  apply loop_post hL (fun x : List UInt8 × (Int × Int) => ∃ done, s = done ++ x.1 ∧ x.2 = adv p done ∧ skipN false s = done.length + skipN false x.1) (fun x => x.1.length)
    (fun x => ⟨[(0, .ptr 0 0)], [], [.cells [.d (.str x.1), .d (.int .i64 x.2.1), .d (.int .i64 x.2.2)]]⟩)
    (s, p) (by simp (config := { maxSteps := 4000000 }) (disch := first | (intros; contradiction) | omega) only [go_sem]) ⟨[], rfl, rfl, by simp⟩
  rintro ⟨u, q⟩ ⟨done, h1, h2, h3⟩ next ih
  simp only at h1 h2 h3 ih ⊢
  have hlen : s.length = done.length + u.length := by rw [h1]; simp
  have hadv := adv_le p done ⟨hp.1, hp.2.2.1⟩
  rw [← h2] at hadv
  have fin : skipN false u = 0 → u = s.drop (skipN false s) ∧ q = adv p (s.take (skipN false s)) := by
    intro h0
    rw [h3, h0, h1, h2]
    simp
  have go : ∀ n : Nat, n ≤ u.length → skipN false u = n + skipN false (u.drop n) → ∃ done', s = done' ++ u.drop n ∧ adv q (u.take n) = adv p done' ∧ skipN false s = done'.length + skipN false (u.drop n) := by
    intro n hn hk
    refine ⟨done ++ u.take n, by rw [h1]; simp, by rw [adv_append, h2], by rw [h3, hk]; simp; omega⟩
  cases u with
  | nil =>
    obtain ⟨f1, f2⟩ := fin rfl
    simp (config := { maxSteps := 4000000 }) (disch := first | (intros; contradiction) | omega) only [go_sem]
    rw [← f1, ← f2]
  | cons c t =>
    cases hb : isBlank c with
    | true =>
      have hp1 := pass_e hx (c :: t) q 1 (by simp) (by omega) (by omega)
      simp only [Int.natCast_one] at hp1
      have hg := go 1 (by simp) (by simp [skipN, hb])
      have hcase : (c.toNat : Int) = 32 ∨ (c.toNat : Int) = 9 ∨ (c.toNat : Int) = 10 := by
        simp only [isBlank, Bool.or_eq_true, beq_iff_eq] at hb
        rcases hb with (rfl | rfl) | rfl <;> simp
      rcases hcase with h | h | h
      · simp (config := { maxSteps := 4000000 }) (disch := first | (intros; contradiction) | omega) only [go_sem, h, hp1]
        exact ih (t, adv q [c]) _ hg (by simp) (by simp (config := { maxSteps := 4000000 }) (disch := first | (intros; contradiction) | omega) only [go_sem])
      · simp (config := { maxSteps := 4000000 }) (disch := first | (intros; contradiction) | omega) only [go_sem, h, hp1]
        exact ih (t, adv q [c]) _ hg (by simp) (by simp (config := { maxSteps := 4000000 }) (disch := first | (intros; contradiction) | omega) only [go_sem])
      · simp (config := { maxSteps := 4000000 }) (disch := first | (intros; contradiction) | omega) only [go_sem, h, hp1]
        exact ih (t, adv q [c]) _ hg (by simp) (by simp (config := { maxSteps := 4000000 }) (disch := first | (intros; contradiction) | omega) only [go_sem])
    | false =>
      have hn : ¬ (c.toNat : Int) = 32 ∧ ¬ (c.toNat : Int) = 9 ∧ ¬ (c.toNat : Int) = 10 := by
        have := byte_all (p := fun c => isBlank c || (decide (¬ (c.toNat : Int) = 32) && decide (¬ (c.toNat : Int) = 9) && decide (¬ (c.toNat : Int) = 10))) (by decide +kernel) c
        rw [hb] at this
        simpa [and_assoc] using this
      obtain ⟨n1, n2, n3⟩ := hn
      cases hs2 : slash2 (c :: t) with
      | true =>
        have hct : ∃ t', c :: t = 47 :: 47 :: t' := by
          unfold slash2 at hs2
          simp only [decide_eq_true_eq] at hs2
          cases t with
          | nil => simp at hs2
          | cons d t' => simp at hs2; exact ⟨t', by rw [hs2.1, hs2.2]⟩
        obtain ⟨t', hct⟩ := hct
        have hsp := span_e hx (fun c => decide (c ≠ 10)) _ (notnl_e hx) (c :: t) (by omega)
        have hle := spanL_le (fun c => decide (c ≠ 10)) (c :: t)
        have hp1 := pass_e hx (c :: t) q (spanL (fun c => decide (c ≠ 10)) (c :: t)) hle (by omega) (by omega)
        have hsk := skipN_comment t'
        rw [← hct] at hsk
        have hg := go _ hle hsk
        have hpos : 0 < spanL (fun c => decide (c ≠ 10)) (c :: t) := by rw [hct]; simp [spanL]
        simp (config := { maxSteps := 4000000 }) (disch := first | (intros; contradiction) | omega) only [go_sem, n1, n2, n3, hasPrefix_e hx, hs2, hsp, hp1]
        exact ih (List.drop (spanL (fun c => decide (c ≠ 10)) (c :: t)) (c :: t), adv q (List.take (spanL (fun c => decide (c ≠ 10)) (c :: t)) (c :: t))) _ hg (by simp only [List.length_drop]; simp only [List.length_cons] at hle ⊢; omega) (by simp (config := { maxSteps := 4000000 }) (disch := first | (intros; contradiction) | omega) only [go_sem])
      | false =>
        have h0 : skipN false (c :: t) = 0 := by
          simp only [skipN, hb, Bool.false_eq_true, if_false]
          rw [if_neg]
          rintro ⟨rfl, h4⟩
          cases t with
          | nil => cases h4
          | cons d t' =>
            simp at h4
            subst h4
            simp [slash2] at hs2
        obtain ⟨f1, f2⟩ := fin h0
        simp (config := { maxSteps := 4000000 }) (disch := first | (intros; contradiction) | omega) only [go_sem, n1, n2, n3, hasPrefix_e hx, hs2]
        rw [← f1, ← f2]
def words : List (List UInt8) := [[105, 110, 116], [115, 116, 114, 117, 99, 116], [105, 102], [101, 108, 115, 101], [119, 104, 105, 108, 101], [98, 114, 101, 97, 107], [99, 111, 110, 116, 105, 110, 117, 101], [114, 101, 116, 117, 114, 110], [102, 114, 101, 101], [112, 117, 116], [110, 101, 119], [110, 117, 108, 108], [103, 101, 116]]
set_option maxRecDepth 10000 in
theorem word_e (hx : TX ext) (s : List UInt8) : G ext 13 [.d (.str s)] [] = some (.ret (.d (.bool (decide (s ∈ words)))), []) := by
  by_cases h : s ∈ words
  · simp only [h, decide_true]
    simp only [words, List.mem_cons, List.not_mem_nil, or_false] at h
    rcases h with rfl | rfl | rfl | rfl | rfl | rfl | rfl | rfl | rfl | rfl | rfl | rfl | rfl <;> exact G_run hx.clear 2 2 (by kernel_rfl)
  · rw [G_body hx.clear rfl Try.func13 rfl Try.results13 hv_13 rfl]
    simp only [h, decide_false]
    simp only [words, List.mem_cons, List.not_mem_nil, or_false, not_or] at h
    obtain ⟨h1, h2, h3, h4, h5, h6, h7, h8, h9, h10, h11, h12, h13⟩ := h
    simp (config := { maxSteps := 4000000 }) (disch := first | (intros; contradiction) | omega) only [go_sem, h1, h2, h3, h4, h5, h6, h7, h8, h9, h10, h11, h12, h13]
end Go.Proofs.Ytknonjnbeajooaa
