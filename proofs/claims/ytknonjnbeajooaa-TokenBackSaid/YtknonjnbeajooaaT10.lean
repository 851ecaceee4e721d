/- the document's token: one number, one sign. Conditions: none. -/
import Derived.Test.YtknonjnbeajooaaT9
namespace Go.Proofs.Ytknonjnbeajooaa
open Go Go.Ab
variable {ext : Sem'}
def capV (l : List UInt8) : Int := if (1099511627776 : Int) < (natVal l : Nat) then 1099511627776 else (natVal l : Nat)
theorem capV_step {l : List UInt8} {m : Nat} {c : UInt8} (h : l[m]? = some c) (hd : isDigit c = true) :
    ((1099511627776 : Int) < capV (l.take m) * 10 + ((c.toNat : Int) - 48) ∧ capV (l.take (m + 1)) = 1099511627776 ∨ ¬ (1099511627776 : Int) < capV (l.take m) * 10 + ((c.toNat : Int) - 48) ∧ capV (l.take (m + 1)) = capV (l.take m) * 10 + ((c.toNat : Int) - 48)) ∧ 48 ≤ (c.toNat : Int) ∧ (c.toNat : Int) ≤ 57 ∧ 0 ≤ capV (l.take m) ∧ capV (l.take m) ≤ 1099511627776 := by
  have hb : 48 ≤ c.toNat ∧ c.toNat ≤ 57 := by
    have := byte_all (p := fun c => !isDigit c || (decide (48 ≤ c.toNat) && decide (c.toNat ≤ 57))) (by decide +kernel) c
    rw [hd] at this
    simpa using this
  obtain ⟨hm, rfl⟩ := List.getElem?_eq_some_iff.1 h
  have := natVal_take hm
  unfold capV
  rw [this]
  refine ⟨?_, by omega, by omega, by split <;> omega, by split <;> omega⟩
  split <;> split <;> omega
set_option maxHeartbeats 4000000 in
theorem rone2_e (hx : TX ext) (s : List UInt8) (i : Nat) (hs : s.length ≤ 1048576) (c : UInt8) (hc : s[i]? = some c) (h1 : isLetter c = false) (h2 : isDigit c = true) : G ext 21 [.d (.str s), .d (.int .i64 i)] [] = 
    some (.ret (.tuple [tokA 3 ((s.drop i).take (spanL isDigit (s.drop i))) (capV ((s.drop i).take (spanL isDigit (s.drop i)))) (0, 0), .d (.int .i64 (if oddNum (s.drop i) (spanL isDigit (s.drop i)) then 3 else if 2147483647 < capV ((s.drop i).take (spanL isDigit (s.drop i))) then 2 else 0))]), []) := by
  rw [G_body hx.clear rfl Try.func21 rfl Try.results21 hv_21 rfl]
  have hi : i < s.length := (List.getElem?_eq_some_iff.1 hc).1
  simp (config := { maxSteps := 4000000 }) (disch := first | (intros; contradiction) | omega) only [go_sem, hc, h1, h2, rletter_e hx, rdigit_e hx]
  generalize hL : loopA _ _ _ = L
  generalize hn : spanL isDigit (s.drop i) = n
  apply loop_post hL (fun m : Nat => i + m ≤ s.length ∧ m + spanL isDigit ((s.drop i).drop m) = n) (fun m => s.length - m)
    (fun m => ⟨[(0, .d (.str s)), (1, .d (.int .i64 i)), (4, .ptr 0 0), (5, .d (.int .i64 0)), (6, .d (.int .i64 (i + m : Nat))), (7, .tuple []), (8, .d (.int .i64 (capV ((s.drop i).take m)))), (9, .tuple []), (10, .tuple []), (11, .tuple [])], [], [.cells [.d (.int .i64 0), .d (.str []), .d (.int .i64 0), .d (.int .i64 0), .d (.int .i64 0)]]⟩)
    0 (by simp (config := { maxSteps := 4000000 }) (disch := first | (intros; contradiction) | omega) only [go_sem] <;> rfl) ⟨by omega, by simpa using hn⟩
  clear hL
  rintro m ⟨k2, k3⟩ next ih
  have hat : (s.drop i)[m]? = s[i + m]? := by rw [List.getElem?_drop]
  have hcase : (∃ d, s[i + m]? = some d ∧ ((i + m : Nat) : Int) < s.length ∧ isDigit d = true ∧ i + (m + 1) ≤ s.length ∧ m + 1 + spanL isDigit ((s.drop i).drop (m + 1)) = n) ∨ m = n ∧ ((∃ d, s[i + m]? = some d ∧ ((i + m : Nat) : Int) < s.length ∧ isDigit d = false ∧ letterAt (s.drop i) n = isLetter d) ∨ ¬ ((i + m : Nat) : Int) < s.length ∧ letterAt (s.drop i) n = false) := by
    by_cases h : i + m < s.length
    · have hc2 : s[i + m]? = some s[i + m] := List.getElem?_eq_getElem h
      have hsp := spanL_drop (p := isDigit) (l := s.drop i) (i := m) (by simp; omega)
      simp only [List.getElem_drop] at hsp
      cases hb : isDigit s[i + m] <;> rw [hb] at hsp <;> simp at hsp
      · refine .inr ⟨by simp at k3; omega, .inl ⟨_, hc2, by omega, hb, ?_⟩⟩
        have hmn : m = n := by simp at k3; omega
        unfold letterAt
        rw [← hmn, hat, hc2]
      · refine .inl ⟨_, hc2, by omega, hb, by omega, ?_⟩
        simp at k3 ⊢
        omega
    · have he : (s.drop i).drop m = [] := List.drop_of_length_le (by simp; omega)
      rw [he] at k3
      simp only [spanL, Nat.add_zero] at k3
      refine .inr ⟨k3, .inr ⟨by omega, ?_⟩⟩
      unfold letterAt
      rw [← k3, hat, List.getElem?_eq_none (by omega)]
  rcases hcase with ⟨d, hd, hlt, hdg, hle, hk⟩ | ⟨hk, hcase⟩
  · obtain ⟨hst, hd1, hd2, hd3, hd4⟩ := capV_step (hat.trans hd) hdg
    rcases hst with ⟨hs1, hs2⟩ | ⟨hs1, hs2⟩
    · simp (config := { maxSteps := 4000000 }) (disch := first | (intros; contradiction) | omega) only [go_sem, hd, hlt, rdigit_e hx, hdg, wrapu8, wrap64, hs1]
      exact ih (m + 1) _ ⟨by omega, hk⟩ (by omega) (by simp (config := { maxSteps := 4000000 }) (disch := first | (intros; contradiction) | omega) only [go_sem, hs2] <;> rfl)
    · simp (config := { maxSteps := 4000000 }) (disch := first | (intros; contradiction) | omega) only [go_sem, hd, hlt, rdigit_e hx, hdg, wrapu8, wrap64, hs1]
      exact ih (m + 1) _ ⟨by omega, hk⟩ (by omega) (by simp (config := { maxSteps := 4000000 }) (disch := first | (intros; contradiction) | omega) only [go_sem, hs2] <;> rfl)
  · clear k3 ih
    subst hk
    have q1 : (i : Int) ≤ ((i + m : Nat) : Int) := by omega
    have q2 : ((i + m : Nat) : Int) ≤ s.length := by omega
    have q3 : ((i + m : Nat) : Int) - i = m := by omega
    have q4 : i + m - i = m := by omega
    have hl0 : (s.drop i)[0]? = some c := by rw [List.getElem?_drop]; simpa using hc
    have hodd : oddNum (s.drop i) m = ((decide (c = 48) && decide (1 < m)) || letterAt (s.drop i) m) := by
      unfold oddNum
      rw [hl0]
      simp
    generalize hv : capV ((s.drop i).take m) = v
    simp only [tokA, hodd]
    have hw : -9223372036854775808 ≤ v ∧ v ≤ 9223372036854775807 := by rw [← hv]; unfold capV; split <;> omega
    have hl : ∀ b : Bool, (decide (c = 48) && decide (1 < m)) = false → ((decide (c = 48) && decide (1 < m)) || b) = b := by intro b e; rw [e]; rfl
    by_cases b1 : c = 48 ∧ 1 < m
    · have c1 := byteY 48 b1.1 (n := 48) rfl
      have c2 : (1 : Int) < m := by omega
      have hT : ((decide (c = 48) && decide (1 < m)) || letterAt (s.drop i) m) = true := by simp [b1.1, b1.2]
      rw [hT, if_pos rfl]
      rcases hcase with ⟨d, hd, hlt, hdg, hla⟩ | ⟨hlt, hla⟩
      · simp (config := { maxSteps := 4000000 }) (disch := first | (intros; contradiction) | omega) only [go_sem, hc, c1, hd, hlt, rdigit_e hx, hdg, q1, q2, q3, q4, c2, wrap64]
      · simp (config := { maxSteps := 4000000 }) (disch := first | (intros; contradiction) | omega) only [go_sem, hc, c1, hlt, q1, q2, q3, q4, c2, wrap64]
    · rw [hl _ (by simp only [Bool.and_eq_false_iff, decide_eq_false_iff_not]; exact Decidable.not_and_iff_or_not.1 b1)]
      have hb : (¬ (c.toNat : Int) = 48) ∨ (c.toNat : Int) = 48 ∧ ¬ (1 : Int) < m := by
        by_cases e : c = 48
        · exact .inr ⟨byteY 48 e rfl, fun h => b1 ⟨e, by omega⟩⟩
        · exact .inl (byteN 48 e rfl)
      rcases hcase with ⟨d, hd, hlt, hdg, hla⟩ | ⟨hlt, hla⟩
      · rw [hla]
        cases hld : isLetter d with
        | true =>
          rw [if_pos rfl]
          rcases hb with c1 | ⟨c1, c2⟩
          · simp (config := { maxSteps := 4000000 }) (disch := first | (intros; contradiction) | omega) only [go_sem, hc, c1, hd, hlt, rdigit_e hx, hdg, q1, q2, q4, rletter_e hx, hld]
          · simp (config := { maxSteps := 4000000 }) (disch := first | (intros; contradiction) | omega) only [go_sem, hc, c1, c2, hd, hlt, rdigit_e hx, hdg, q1, q2, q3, q4, rletter_e hx, hld, wrap64]
        | false =>
          rw [if_neg (by simp)]
          by_cases hbig : 2147483647 < v
          · rw [if_pos hbig]
            rcases hb with c1 | ⟨c1, c2⟩
            · simp (config := { maxSteps := 4000000 }) (disch := first | (intros; contradiction) | omega) only [go_sem, hc, c1, hd, hlt, rdigit_e hx, hdg, q1, q2, q4, rletter_e hx, hld, hbig]
            · simp (config := { maxSteps := 4000000 }) (disch := first | (intros; contradiction) | omega) only [go_sem, hc, c1, c2, hd, hlt, rdigit_e hx, hdg, q1, q2, q3, q4, rletter_e hx, hld, hbig, wrap64]
          · rw [if_neg hbig]
            rcases hb with c1 | ⟨c1, c2⟩
            · simp (config := { maxSteps := 4000000 }) (disch := first | (intros; contradiction) | omega) only [go_sem, hc, c1, hd, hlt, rdigit_e hx, hdg, q1, q2, q4, rletter_e hx, hld, hbig]
            · simp (config := { maxSteps := 4000000 }) (disch := first | (intros; contradiction) | omega) only [go_sem, hc, c1, c2, hd, hlt, rdigit_e hx, hdg, q1, q2, q3, q4, rletter_e hx, hld, hbig, wrap64]
      · rw [hla, if_neg (by simp)]
        by_cases hbig : 2147483647 < v
        · rw [if_pos hbig]
          rcases hb with c1 | ⟨c1, c2⟩
          · simp (config := { maxSteps := 4000000 }) (disch := first | (intros; contradiction) | omega) only [go_sem, hc, c1, hlt, q1, q2, q4, hbig]
          · simp (config := { maxSteps := 4000000 }) (disch := first | (intros; contradiction) | omega) only [go_sem, hc, c1, c2, hlt, q1, q2, q3, q4, hbig, wrap64]
        · rw [if_neg hbig]
          rcases hb with c1 | ⟨c1, c2⟩
          · simp (config := { maxSteps := 4000000 }) (disch := first | (intros; contradiction) | omega) only [go_sem, hc, c1, hlt, q1, q2, q4, hbig]
          · simp (config := { maxSteps := 4000000 }) (disch := first | (intros; contradiction) | omega) only [go_sem, hc, c1, c2, hlt, q1, q2, q3, q4, hbig, wrap64]
/-- The first of texts with which one begins. -/
def fs (l : List UInt8) : List (List UInt8) → Option (List UInt8)
  | [] => none
  | x :: xs => if x.length ≤ l.length ∧ l.take x.length = x then some x else fs l xs
theorem fs_append (l : List UInt8) (A B : List (List UInt8)) : fs l (A ++ B) = (fs l A).or (fs l B) := by
  induction A with
  | nil => rfl
  | cons x A ih =>
    simp only [List.cons_append, fs]
    split
    · rfl
    · exact ih
theorem fs_two (l : List UInt8) (A : List (List UInt8)) (h : ∀ x, x ∈ A → x.length = 2) : fs l A = if 1 < l.length ∧ l.take 2 ∈ A then some (l.take 2) else none := by
  induction A with
  | nil => simp [fs]
  | cons x A ih =>
    have hx := h x (by simp)
    simp only [fs, hx, ih (fun y hy => h y (by simp [hy]))]
    by_cases h1 : 2 ≤ l.length ∧ l.take 2 = x
    · rw [if_pos h1, if_pos ⟨by omega, by simp [h1.2]⟩, h1.2]
    · rw [if_neg h1]
      by_cases h2 : 1 < l.length ∧ l.take 2 ∈ A
      · rw [if_pos h2, if_pos ⟨h2.1, by simp [h2.2]⟩]
      · rw [if_neg h2, if_neg]
        rintro ⟨h3, h4⟩
        rcases List.mem_cons.1 h4 with e | e
        · exact h1 ⟨by omega, e⟩
        · exact h2 ⟨h3, e⟩
theorem fs_one (c : UInt8) (t : List UInt8) (A : List UInt8) : fs (c :: t) (A.map fun c => [c]) = if c ∈ A then some [c] else none := by
  induction A with
  | nil => simp [fs]
  | cons x A ih =>
    simp only [List.map_cons, fs, ih, List.length_cons, List.length_nil, List.take_succ_cons, List.take_zero, List.cons.injEq, and_true, List.mem_cons]
    by_cases h1 : c = x
    · simp [h1]
    · by_cases h2 : c ∈ A <;> simp [h1, h2]
theorem fs_sign (c : UInt8) (t : List UInt8) : match fs (c :: t) signsL with
    | some x => signR (c :: t) = .tok 4 x.length 0 ∧ x = (c :: t).take x.length
    | none => signR (c :: t) = .bad 3 := by
  unfold signsL
  rw [fs_append, fs_two _ signs2 (by decide), fs_one]
  unfold signR
  by_cases h1 : 1 < (c :: t).length ∧ (c :: t).take 2 ∈ signs2
  · rw [if_pos h1]
    simp only [Option.some_or]
    rw [if_pos h1]
    have hl : ((c :: t).take 2).length = 2 := by rw [List.length_take]; omega
    rw [hl]
    exact ⟨rfl, rfl⟩
  · rw [if_neg h1, if_neg h1, Option.none_or]
    by_cases h2 : c ∈ signs1
    · rw [if_pos h2, if_pos (by simp [oneSign, h2])]
      simp
    · rw [if_neg h2, if_neg (by simp [oneSign, h2])]
set_option maxHeartbeats 4000000 in
theorem rone3_e (hx : TX ext) (s : List UInt8) (i : Nat) (hs : s.length ≤ 1048576) (c : UInt8) (hc : s[i]? = some c) (h1 : isLetter c = false) (h2 : isDigit c = false) : G ext 21 [.d (.str s), .d (.int .i64 i)] [] = some (match fs (s.drop i) signsL with
      | some x => (.ret (.tuple [tokA 4 x 0 (0, 0), .d (.int .i64 0)]), [])
      | none => (.ret (.tuple [tokA 0 [] 0 (0, 0), .d (.int .i64 3)]), [])) := by
  rw [G_body hx.clear rfl Try.func21 rfl Try.results21 hv_21 rfl]
  have hi : i < s.length := (List.getElem?_eq_some_iff.1 hc).1
  simp (config := { maxSteps := 4000000 }) (disch := first | (intros; contradiction) | omega) only [go_sem, hc, h1, h2, rletter_e hx, rdigit_e hx, rsigns_e hx]
  generalize hL : loopA _ _ _ = L
  have hlen : signsL.length ≤ 20 := by decide
  have hlen2 : ∀ x, x ∈ signsL → x.length ≤ 2 := by decide
  generalize signsL = A at *
  apply loop_post hL (fun j : Nat => j ≤ A.length ∧ fs (s.drop i) A = fs (s.drop i) (A.drop j)) (fun j => A.length - j)
    (fun j => ⟨[(0, .d (.str s)), (1, .d (.int .i64 i)), (4, .ptr 0 0), (5, .d (.int .i64 0)), (6, .d (.int .i64 i)), (7, .tuple []), (8, .tuple []), (9, .tuple []), (10, .d (.sl (A.map fun x => [.str x]))), (11, .d (.int .i64 j))], [], [.cells [.d (.int .i64 0), .d (.str []), .d (.int .i64 0), .d (.int .i64 0), .d (.int .i64 0)]]⟩)
    0 (by simp (config := { maxSteps := 4000000 }) (disch := first | (intros; contradiction) | omega) only [go_sem] <;> rfl) ⟨Nat.zero_le _, by simp⟩
  clear hL
  rintro j ⟨hj, hf⟩ next ih
  have q0 : (s.length : Int) - i = (s.length - i : Nat) := by omega
  by_cases h : j < A.length
  · have hcj := strs_at A j h
    have h' : (j : Int) < A.length := by omega
    have hl2 := hlen2 A[j] (List.getElem_mem h)
    rw [List.drop_eq_getElem_cons h] at hf
    simp only [fs, List.length_drop] at hf
    generalize A[j] = x at *
    by_cases e1 : x.length ≤ s.length - i
    · have e1' : (x.length : Int) ≤ ((s.length - i : Nat) : Int) := by omega
      have q1 : (i : Int) ≤ (i : Int) + x.length := by omega
      have q2 : (i : Int) + x.length ≤ s.length := by omega
      have q3 : 0 ≤ (i : Int) + x.length := by omega
      have q4 : ((i : Int) + x.length).toNat = i + x.length := by omega
      have q5 : i + x.length - i = x.length := by omega
      by_cases e2 : (s.drop i).take x.length = x
      · rw [if_pos ⟨e1, e2⟩] at hf
        rw [hf]
        simp only [tokA]
        simp (config := { maxSteps := 4000000 }) (disch := first | (intros; contradiction) | omega) only [go_sem, List.length_map, hcj, h', q0, e1', q1, q2, q4, q5, e2, wrap64]
        trace_state
        done
      · rw [if_neg (fun h => e2 h.2)] at hf
        simp (config := { maxSteps := 4000000 }) (disch := first | (intros; contradiction) | omega) only [go_sem, List.length_map, hcj, h', q0, e1', q1, q2, q4, q5, e2, wrap64]
        exact ih (j + 1) _ ⟨by omega, hf⟩ (by omega) (by simp (config := { maxSteps := 4000000 }) (disch := first | (intros; contradiction) | omega) only [go_sem] <;> rfl)
    · have e1' : ¬ (x.length : Int) ≤ ((s.length - i : Nat) : Int) := by omega
      rw [if_neg (fun h => e1 h.1)] at hf
      simp (config := { maxSteps := 4000000 }) (disch := first | (intros; contradiction) | omega) only [go_sem, List.length_map, hcj, h', q0, e1', wrap64]
      exact ih (j + 1) _ ⟨by omega, hf⟩ (by omega) (by simp (config := { maxSteps := 4000000 }) (disch := first | (intros; contradiction) | omega) only [go_sem] <;> rfl)
  · have h' : ¬ (j : Int) < A.length := by omega
    have he : A.drop j = [] := List.drop_of_length_le (by omega)
    rw [he] at hf
    simp only [fs] at hf
    rw [hf]
    simp only [tokA]
    simp (config := { maxSteps := 4000000 }) (disch := first | (intros; contradiction) | omega) only [go_sem, List.length_map, h']
end Go.Proofs.Ytknonjnbeajooaa
