/- token: words, numbers, signs. Conditions: none. -/
import Derived.Test.YtknonjnbeajooaaT3
namespace Go.Proofs.Ytknonjnbeajooaa
open Go Go.Ab
variable {ext : Sem'}
/-- What begins there: a fault, or a token of some bytes. -/
inductive LexR where
  | bad (f : Int)
  | tok (kind : Int) (len : Nat) (num : Int)
def tokA (k : Int) (t : List UInt8) (v : Int) (p : Int × Int) : AV := .agg [.d (.int .i64 k), .d (.str t), .d (.int .i64 v), .d (.int .i64 p.1), .d (.int .i64 p.2)]
def lexOut (s : List UInt8) (p : Int × Int) : LexR → Out × List AObj
  | .bad f => (.ret (.tuple [tokA 0 [] 0 (0, 0), .d (.int .i64 f)]), [.cells [.d (.str s), .d (.int .i64 p.1), .d (.int .i64 p.2)]])
  | .tok k n v => (.ret (.tuple [tokA k (s.take n) v p, .d (.int .i64 0)]), [.cells [.d (.str (s.drop n)), .d (.int .i64 (adv p (s.take n)).1), .d (.int .i64 (adv p (s.take n)).2)]])
def wordR (l : List UInt8) : LexR :=
  if 40 < spanL isInner l then .bad 2 else .tok (if l.take (spanL isInner l) ∈ words then 2 else 1) (spanL isInner l) 0
theorem tword_e (hx : TX ext) (s : List UInt8) (p : Int × Int) (hs : s.length ≤ 1048576) (hp : 1 ≤ p.1 ∧ p.1 + s.length ≤ 4000000 ∧ 1 ≤ p.2 ∧ p.2 + s.length ≤ 4000000) :
    G ext 38 [.ptr 0 0] [.cells [.d (.str s), .d (.int .i64 p.1), .d (.int .i64 p.2)]] = some (lexOut s p (wordR s)) := by
  rw [G_body hx.clear rfl Try.func38 rfl Try.results38 hv_38 rfl]
  have hsp := span_e hx isInner _ (inner_e hx) s hs
  have hp1 := pass_e hx s p (spanL isInner s) (spanL_le _ _) hs (by omega)
  have hw := word_e hx (s.take (spanL isInner s))
  by_cases h : (40 : Int) < spanL isInner s
  · have h' : 40 < spanL isInner s := by omega
    simp only [wordR, if_pos h', lexOut, tokA]
    simp (config := { maxSteps := 4000000 }) (disch := first | (intros; contradiction) | omega) only [go_sem, hsp, h]
  · have h' : ¬ 40 < spanL isInner s := by omega
    simp only [wordR, if_neg h', lexOut, tokA]
    by_cases hm : s.take (spanL isInner s) ∈ words
    · simp only [if_pos hm]
      simp (config := { maxSteps := 4000000 }) (disch := first | (intros; contradiction) | omega) only [go_sem, hsp, h, hp1, hw, hm]
    · simp only [if_neg hm]
      simp (config := { maxSteps := 4000000 }) (disch := first | (intros; contradiction) | omega) only [go_sem, hsp, h, hp1, hw, hm]
/-- The value of digits. -/
def natVal (l : List UInt8) : Nat := l.foldl (fun v c => v * 10 + (c.toNat - 48)) 0
theorem natVal_take {l : List UInt8} {k : Nat} (h : k < l.length) : natVal (l.take (k + 1)) = natVal (l.take k) * 10 + (l[k].toNat - 48) := by
  rw [List.take_add_one, List.getElem?_eq_getElem h]; unfold natVal; rw [List.foldl_append]; rfl
theorem natVal_mono (l : List UInt8) {k n : Nat} (h : k ≤ n) : natVal (l.take k) ≤ natVal (l.take n) := by
  induction n with
  | zero => rw [Nat.le_zero.1 h]; exact Nat.le_refl _
  | succ n ih =>
    by_cases e : k = n + 1
    · rw [e]; exact Nat.le_refl _
    · refine Nat.le_trans (ih (by omega)) ?_
      by_cases hl : n < l.length
      · rw [natVal_take hl]; omega
      · rw [List.take_of_length_le (by omega), List.take_of_length_le (by omega)]; exact Nat.le_refl _
theorem spanL_at {p : UInt8 → Bool} {l : List UInt8} {k : Nat} (h : k < spanL p l) : p (l[k]'(Nat.lt_of_lt_of_le h (spanL_le p l))) = true := by
  induction l generalizing k with
  | nil => simp [spanL] at h
  | cons a l ih =>
    cases hp : p a with
    | false => simp [spanL, hp] at h
    | true =>
      cases k with
      | zero => exact hp
      | succ k => exact ih (k := k) (by simp only [spanL, hp, if_true] at h; omega)
def letterAt (l : List UInt8) (n : Nat) : Bool := match l[n]? with
  | some c => isLetter c
  | none => false
def oddNum (l : List UInt8) (n : Nat) : Bool := (decide (l[0]? = some 48) && decide (1 < n)) || letterAt l n
def numberR (l : List UInt8) : LexR :=
  if oddNum l (spanL isDigit l) then .bad 3
  else if 2147483647 < natVal (l.take (spanL isDigit l)) then .bad 2 else .tok 3 (spanL isDigit l) (natVal (l.take (spanL isDigit l)))
set_option maxHeartbeats 1000000 in
theorem tnumber_e (hx : TX ext) (c : UInt8) (t : List UInt8) (p : Int × Int) (hs : (c :: t).length ≤ 1048576) (hp : 1 ≤ p.1 ∧ p.1 + ((c :: t).length : Int) ≤ 4000000 ∧ 1 ≤ p.2 ∧ p.2 + ((c :: t).length : Int) ≤ 4000000) :
    G ext 40 [.ptr 0 0] [.cells [.d (.str (c :: t)), .d (.int .i64 p.1), .d (.int .i64 p.2)]] = some (lexOut (c :: t) p (numberR (c :: t))) := by
  rw [G_body hx.clear rfl Try.func40 rfl Try.results40 hv_40 rfl]
  have hsp := span_e hx isDigit _ (digit_e hx) (c :: t) hs
  have hle := spanL_le isDigit (c :: t)
  have hp1 := pass_e hx (c :: t) p (spanL isDigit (c :: t)) hle hs (by omega)
  have hdg : ∀ k d, k < spanL isDigit (c :: t) → (c :: t)[k]? = some d → isDigit d = true := by
    intro k d hk hd
    have h := spanL_at hk
    have hl : k < (c :: t).length := by omega
    rw [List.getElem?_eq_getElem hl] at hd
    cases hd
    exact h
  unfold numberR
  generalize hn : spanL isDigit (c :: t) = n at hsp hp1 hle hdg ⊢
  have hodd : oddNum (c :: t) n = ((decide ((c.toNat : Int) = 48) && decide ((1 : Int) < (n : Int))) || letterAt (c :: t) n) := by
    unfold oddNum
    have e1 := byte_all (p := fun c => decide (c = 48) == decide ((c.toNat : Int) = 48)) (by decide +kernel) c
    simp only [beq_iff_eq] at e1
    have e2 : decide (1 < n) = decide ((1 : Int) < (n : Int)) := decide_eq_decide.2 (by omega)
    rw [← e1, ← e2]
    simp
  by_cases ho : (c.toNat : Int) = 48 ∧ (1 : Int) < (n : Int)
  · have hb : oddNum (c :: t) n = true := by rw [hodd]; simp [ho.1, ho.2]
    rw [if_pos hb]
    obtain ⟨o1, o2⟩ := ho
    simp only [lexOut, tokA]
    simp (config := { maxSteps := 4000000 }) (disch := first | (intros; contradiction) | omega) only [go_sem, hsp, o1, o2]
  cases hl : letterAt (c :: t) n with
  | true =>
    have hb : oddNum (c :: t) n = true := by rw [hodd, hl, Bool.or_true]
    rw [if_pos hb]
    obtain ⟨d, hd, hld⟩ : ∃ d, (c :: t)[n]? = some d ∧ isLetter d = true := by
      unfold letterAt at hl
      split at hl
      · exact ⟨_, by assumption, hl⟩
      · cases hl
    have hlt : (n : Int) < ((t.length + 1 : Nat) : Int) := by have := (List.getElem?_eq_some_iff.1 hd).1; simp at this; omega
    simp only [lexOut, tokA]
    by_cases o1 : (c.toNat : Int) = 48
    · have o2 : ¬ (1 : Int) < (n : Int) := fun h => ho ⟨o1, h⟩
      simp (config := { maxSteps := 4000000 }) (disch := first | (intros; contradiction) | omega) only [go_sem, hsp, o1, o2, hlt, hd, letter_e hx, hld]
    · simp (config := { maxSteps := 4000000 }) (disch := first | (intros; contradiction) | omega) only [go_sem, hsp, o1, hlt, hd, letter_e hx, hld]
  | false =>
    have hb : oddNum (c :: t) n = false := by
      rw [hodd, hl, Bool.or_false]
      simp only [Bool.and_eq_false_iff, decide_eq_false_iff_not]
      by_cases o1 : (c.toNat : Int) = 48
      · exact .inr (fun h => ho ⟨o1, h⟩)
      · exact .inl o1
    rw [if_neg (by simp [hb])]
    have hcase : (∃ d, (c :: t)[n]? = some d ∧ isLetter d = false ∧ (n : Int) < ((t.length + 1 : Nat) : Int)) ∨ ¬ (n : Int) < ((t.length + 1 : Nat) : Int) := by
      by_cases h : n < (c :: t).length
      · refine .inl ⟨_, List.getElem?_eq_getElem h, ?_, by simp at h; omega⟩
        unfold letterAt at hl
        rw [List.getElem?_eq_getElem h] at hl
        exact hl
      · exact .inr (by simp at h; omega)
    have o2 : (c.toNat : Int) = 48 → ¬ (1 : Int) < (n : Int) := fun o1 h => ho ⟨o1, h⟩
    clear hodd hb ho
    rcases hcase with ⟨d, hd, hld, hlt⟩ | hlt <;> by_cases o1 : (c.toNat : Int) = 48
    all_goals first
      | (have o3 := o2 o1
         simp (config := { maxSteps := 4000000 }) (disch := first | (intros; contradiction) | omega) only [go_sem, hsp, o1, o3, hlt, hd, letter_e hx, hld])
      | (simp (config := { maxSteps := 4000000 }) (disch := first | (intros; contradiction) | omega) only [go_sem, hsp, o1, hlt, hd, letter_e hx, hld])
      | (have o3 := o2 o1
         simp (config := { maxSteps := 4000000 }) (disch := first | (intros; contradiction) | omega) only [go_sem, hsp, o1, o3, hlt])
      | (simp (config := { maxSteps := 4000000 }) (disch := first | (intros; contradiction) | omega) only [go_sem, hsp, o1, hlt])
    all_goals
      clear hsp o1 o2 hlt
      generalize hL : loopA _ _ _ = L
      generalize hs' : c :: t = s at hp1 hle hdg hs hp ⊢
      apply loop_post hL (fun k : Nat => k ≤ n ∧ natVal (s.take k) ≤ 2147483647) (fun k => n - k)
        (fun k => ⟨[(0, .ptr 0 0), (2, .ptr 1 0), (3, .d (.int .i64 0)), (4, .d (.int .i64 n)), (5, .d (.int .i64 (natVal (s.take k)))), (6, .any), (41, .d (.int .i64 n)), (42, .d (.int .i64 k))], [], [.cells [.d (.str s), .d (.int .i64 p.1), .d (.int .i64 p.2)], .cells [.d (.int .i64 0), .d (.str []), .d (.int .i64 0), .d (.int .i64 0), .d (.int .i64 0)]]⟩)
        0 (by subst hs'; simp (config := { maxSteps := 4000000 }) (disch := first | (intros; contradiction) | omega) only [go_sem] <;> rfl) ⟨Nat.zero_le _, by simp [natVal]⟩
      intro k hk next ih
      by_cases hlt : k < n
      · have hc : s[k]? = some s[k] := List.getElem?_eq_getElem (by omega)
        have hkn : (k : Int) < n := by omega
        have hdk := hdg k _ hlt hc
        have hb : 48 ≤ s[k].toNat ∧ s[k].toNat ≤ 57 := by
          have := byte_all (p := fun c => !isDigit c || (decide (48 ≤ c.toNat) && decide (c.toNat ≤ 57))) (by decide +kernel) s[k]
          rw [hdk] at this
          simpa using this
        have hnv := natVal_take (l := s) (k := k) (by omega)
        have hcast : ((natVal (s.take k) : Nat) : Int) * 10 + ((s[k].toNat : Int) - 48) = ((natVal (s.take (k + 1)) : Nat) : Int) := by rw [hnv]; omega
        by_cases hbig : (2147483647 : Int) < ((natVal (s.take (k + 1)) : Nat) : Int)
        · have hm := natVal_mono s (k := k + 1) (n := n) (by omega)
          rw [if_pos (by omega)]
          simp only [lexOut, tokA]
          simp (config := { maxSteps := 4000000 }) (disch := first | (intros; contradiction) | omega) only [go_sem, hc, hkn, wrapu8, wrap64, hcast, hbig]
        · simp (config := { maxSteps := 4000000 }) (disch := first | (intros; contradiction) | omega) only [go_sem, hc, hkn, wrapu8, wrap64, hcast, hbig]
          exact ih (k + 1) _ ⟨by omega, by omega⟩ (by omega) (by simp (config := { maxSteps := 4000000 }) (disch := first | (intros; contradiction) | omega) only [go_sem] <;> rfl)
      · have hkn : ¬ (k : Int) < n := by omega
        have hke : k = n := by omega
        subst hke
        rw [if_neg (by omega)]
        simp only [lexOut, tokA]
        simp (config := { maxSteps := 4000000 }) (disch := first | (intros; contradiction) | omega) only [go_sem, hkn, hp1]
end Go.Proofs.Ytknonjnbeajooaa
