/- the document's token: words, one token. Conditions: none. -/
import Derived.Test.YtknonjnbeajooaaT8
namespace Go.Proofs.Ytknonjnbeajooaa
open Go Go.Ab
variable {ext : Sem'}
theorem rwords_e (hx : TX ext) : G ext 28 [] [] = some (.ret (.d (.sl (words.map fun x => [.str x]))), []) := by
  rw [G_body hx.clear rfl Try.func28 rfl Try.results28 hv_28 rfl]
  simp (config := { maxSteps := 4000000 }) (disch := first | (intros; contradiction) | omega) only [go_sem]
  rfl
def signsL : List (List UInt8) := signs2 ++ signs1.map fun c => [c]
theorem rsigns_e (hx : TX ext) : G ext 34 [] [] = some (.ret (.d (.sl (signsL.map fun x => [.str x]))), []) := by
  rw [G_body hx.clear rfl Try.func34 rfl Try.results34 hv_34 rfl]
  simp (config := { maxSteps := 4000000 }) (disch := first | (intros; contradiction) | omega) only [go_sem]
  rfl
theorem rword_e (hx : TX ext) (s : List UInt8) : G ext 14 [.d (.str s)] [] = some (.ret (.d (.bool (decide (s ∈ words)))), []) := by
  rw [G_body hx.clear rfl Try.func14 rfl Try.results14 hv_14 rfl]
  simp (config := { maxSteps := 4000000 }) (disch := first | (intros; contradiction) | omega) only [go_sem, rwords_e hx]
  have hlen : words.length ≤ 13 := by decide
  generalize words = l at *
  generalize hL : loopA _ _ _ = L
  apply loop_post hL (fun k : Nat => k ≤ l.length ∧ (s ∈ l ↔ s ∈ l.drop k)) (fun k => l.length - k)
    (fun k => ⟨[(0, .d (.str s)), (2, .d (.bool false)), (3, .d (.sl (l.map fun x => [.str x]))), (4, .d (.int .i64 k))], [], []⟩)
    0 (by simp (config := { maxSteps := 4000000 }) (disch := first | (intros; contradiction) | omega) only [go_sem] <;> rfl) ⟨Nat.zero_le _, by simp⟩
  intro k hk next ih
  by_cases h : k < l.length
  · have hc := strs_at l k h
    have h' : (k : Int) < l.length := by omega
    rw [List.drop_eq_getElem_cons h, List.mem_cons] at hk
    by_cases he : l[k] = s
    · have hr : s ∈ l := hk.2.2 (.inl he.symm)
      simp only [hr, decide_true]
      simp (config := { maxSteps := 4000000 }) (disch := first | (intros; contradiction) | omega) only [go_sem, List.length_map, hc, h', he]
    · simp (config := { maxSteps := 4000000 }) (disch := first | (intros; contradiction) | omega) only [go_sem, List.length_map, hc, h', he, wrap64]
      exact ih (k + 1) _ ⟨by omega, by rw [hk.2]; exact ⟨fun h => h.elim (fun e => absurd e.symm he) id, .inr⟩⟩ (by omega) (by simp (config := { maxSteps := 4000000 }) (disch := first | (intros; contradiction) | omega) only [go_sem] <;> rfl)
  · have h' : ¬ (k : Int) < l.length := by omega
    have hke : k = l.length := by omega
    subst hke
    rw [List.drop_length] at hk
    have hr : ¬ s ∈ l := fun h => by have := hk.2.1 h; simp at this
    simp only [hr, decide_false]
    simp (config := { maxSteps := 4000000 }) (disch := first | (intros; contradiction) | omega) only [go_sem, List.length_map, h']
set_option maxHeartbeats 4000000 in
theorem rone1_e (hx : TX ext) (s : List UInt8) (i : Nat) (hs : s.length ≤ 1048576) (c : UInt8) (hc : s[i]? = some c) (h1 : isLetter c = true) : G ext 21 [.d (.str s), .d (.int .i64 i)] [] = 
    some (.ret (.tuple [tokA (if (s.drop i).take (spanL isInner (s.drop i)) ∈ words then 2 else 1) ((s.drop i).take (spanL isInner (s.drop i))) 0 (0, 0), .d (.int .i64 (if 40 < spanL isInner (s.drop i) then 2 else 0))]), []) := by
  rw [G_body hx.clear rfl Try.func21 rfl Try.results21 hv_21 rfl]
  have hi : i < s.length := (List.getElem?_eq_some_iff.1 hc).1
  simp (config := { maxSteps := 4000000 }) (disch := first | (intros; contradiction) | omega) only [go_sem, hc, h1, rletter_e hx]
  generalize hL : loopA _ _ _ = L
  generalize hn : spanL isInner (s.drop i) = n
  apply loop_post hL (fun k : Nat => i ≤ k ∧ k ≤ s.length ∧ k + spanL isInner (s.drop k) = i + n) (fun k => s.length - k)
    (fun k => ⟨[(0, .d (.str s)), (1, .d (.int .i64 i)), (4, .ptr 0 0), (5, .d (.int .i64 0)), (6, .d (.int .i64 k)), (7, .tuple []), (8, .tuple []), (9, .tuple []), (10, .tuple []), (11, .tuple [])], [], [.cells [.d (.int .i64 0), .d (.str []), .d (.int .i64 0), .d (.int .i64 0), .d (.int .i64 0)]]⟩)
    i (by simp (config := { maxSteps := 4000000 }) (disch := first | (intros; contradiction) | omega) only [go_sem] <;> rfl) ⟨by omega, by omega, by omega⟩
  clear hL
  rintro k ⟨k1, k2, k3⟩ next ih
  have hcase : (∃ h : k < s.length, s[k]? = some s[k] ∧ (k : Int) < s.length ∧ (isLetter s[k] = true ∨ isLetter s[k] = false ∧ isDigit s[k] = true) ∧ k + 1 + spanL isInner (s.drop (k + 1)) = i + n) ∨ k - i = n ∧ ((∃ h : k < s.length, s[k]? = some s[k] ∧ (k : Int) < s.length ∧ isLetter s[k] = false ∧ isDigit s[k] = false) ∨ ¬ (k : Int) < s.length) := by
    by_cases h : k < s.length
    · obtain ⟨hck, hd, hlt⟩ := dropC h
      have hsp := spanL_drop (p := isInner) h
      have hin : isInner s[k] = (isLetter s[k] || isDigit s[k]) := rfl
      cases ha : isLetter s[k] <;> cases hb : isDigit s[k] <;> rw [hin, ha, hb] at hsp <;> simp at hsp
      · exact .inr ⟨by omega, .inl ⟨h, hck, hlt, ha, hb⟩⟩
      · exact .inl ⟨h, hck, hlt, .inr ⟨ha, hb⟩, by omega⟩
      · exact .inl ⟨h, hck, hlt, .inl ha, by omega⟩
      · exact .inl ⟨h, hck, hlt, .inl ha, by omega⟩
    · rw [List.drop_of_length_le (by omega)] at k3
      simp only [spanL] at k3
      exact .inr ⟨by omega, .inr (by omega)⟩
  have q1 : (i : Int) ≤ k := by omega
  have q2 : (k : Int) ≤ s.length := by omega
  rcases hcase with ⟨h, hck, hlt, ha | ⟨ha, hb⟩, hk⟩ | ⟨hk, hcase⟩
  · simp (config := { maxSteps := 4000000 }) (disch := first | (intros; contradiction) | omega) only [go_sem, hck, hlt, rletter_e hx, ha, wrap64]
    exact ih (k + 1) _ ⟨by omega, by omega, hk⟩ (by omega) (by simp (config := { maxSteps := 4000000 }) (disch := first | (intros; contradiction) | omega) only [go_sem] <;> rfl)
  · simp (config := { maxSteps := 4000000 }) (disch := first | (intros; contradiction) | omega) only [go_sem, hck, hlt, rletter_e hx, ha, rdigit_e hx, hb, wrap64]
    exact ih (k + 1) _ ⟨by omega, by omega, hk⟩ (by omega) (by simp (config := { maxSteps := 4000000 }) (disch := first | (intros; contradiction) | omega) only [go_sem] <;> rfl)
  · clear k3 ih
    have q3 : (k : Int) - i = n := by omega
    simp only [tokA]
    by_cases hw : (s.drop i).take n ∈ words <;> by_cases hg : 40 < n
    all_goals
      simp only [hw, hg, if_true, if_false]
    · have hg' : (40 : Int) < n := by omega
      rcases hcase with ⟨h, hck, hlt, ha, hb⟩ | hlt
      · simp (config := { maxSteps := 4000000 }) (disch := first | (intros; contradiction) | omega) only [go_sem, hck, hlt, rletter_e hx, ha, rdigit_e hx, hb, q1, q2, hk, q3, hg', rword_e hx, hw, wrap64]
      · simp (config := { maxSteps := 4000000 }) (disch := first | (intros; contradiction) | omega) only [go_sem, hlt, q1, q2, hk, q3, hg', rword_e hx, hw, wrap64]
    · have hg' : ¬ (40 : Int) < n := by omega
      rcases hcase with ⟨h, hck, hlt, ha, hb⟩ | hlt
      · simp (config := { maxSteps := 4000000 }) (disch := first | (intros; contradiction) | omega) only [go_sem, hck, hlt, rletter_e hx, ha, rdigit_e hx, hb, q1, q2, hk, q3, hg', rword_e hx, hw, wrap64]
      · simp (config := { maxSteps := 4000000 }) (disch := first | (intros; contradiction) | omega) only [go_sem, hlt, q1, q2, hk, q3, hg', rword_e hx, hw, wrap64]
    · have hg' : (40 : Int) < n := by omega
      rcases hcase with ⟨h, hck, hlt, ha, hb⟩ | hlt
      · simp (config := { maxSteps := 4000000 }) (disch := first | (intros; contradiction) | omega) only [go_sem, hck, hlt, rletter_e hx, ha, rdigit_e hx, hb, q1, q2, hk, q3, hg', rword_e hx, hw, wrap64]
      · simp (config := { maxSteps := 4000000 }) (disch := first | (intros; contradiction) | omega) only [go_sem, hlt, q1, q2, hk, q3, hg', rword_e hx, hw, wrap64]
    · have hg' : ¬ (40 : Int) < n := by omega
      rcases hcase with ⟨h, hck, hlt, ha, hb⟩ | hlt
      · simp (config := { maxSteps := 4000000 }) (disch := first | (intros; contradiction) | omega) only [go_sem, hck, hlt, rletter_e hx, ha, rdigit_e hx, hb, q1, q2, hk, q3, hg', rword_e hx, hw, wrap64]
      · simp (config := { maxSteps := 4000000 }) (disch := first | (intros; contradiction) | omega) only [go_sem, hlt, q1, q2, hk, q3, hg', rword_e hx, hw, wrap64]
end Go.Proofs.Ytknonjnbeajooaa
