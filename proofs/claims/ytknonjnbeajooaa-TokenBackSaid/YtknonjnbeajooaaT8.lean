/- the document's token: blanks, places. Conditions: none. -/
import Derived.Test.YtknonjnbeajooaaT7
namespace Go.Proofs.Ytknonjnbeajooaa
open Go Go.Ab
variable {ext : Sem'}
theorem byteEq (c k : UInt8) (n : Int) (h : n = k.toNat) : ((c.toNat : Int) = n) = (c = k) := by
  subst h
  apply propext
  constructor
  · intro h; exact UInt8.toNat_inj.1 (by omega)
  · rintro rfl; rfl
theorem byteY {c : UInt8} {n : Int} (k : UInt8) (e : c = k) (h : n = k.toNat) : (c.toNat : Int) = n := by subst e; exact h.symm
theorem byteN {c : UInt8} {n : Int} (k : UInt8) (e : ¬ c = k) (h : n = k.toNat) : ¬ (c.toNat : Int) = n := by rw [byteEq c k n h]; exact e
theorem dropC {s : List UInt8} {i : Nat} (h : i < s.length) : s[i]? = some s[i] ∧ s.drop i = s[i] :: s.drop (i + 1) ∧ (i : Int) < s.length :=
  ⟨List.getElem?_eq_getElem h, List.drop_eq_getElem_cons h, by omega⟩
set_option maxHeartbeats 2000000 in
theorem rskip_e (hx : TX ext) (s : List UInt8) (i : Nat) (hs : s.length ≤ 1048576) (hi : i ≤ s.length) : G ext 19 [.d (.str s), .d (.int .i64 i)] [] = some (.ret (.d (.int .i64 (i + skipN false (s.drop i) : Nat))), []) := by
  rw [G_body hx.clear rfl Try.func19 rfl Try.results19 hv_19 rfl]
  simp (config := { maxSteps := 4000000 }) (disch := first | (intros; contradiction) | omega) only [go_sem]
  generalize hN : i + skipN false (s.drop i) = N
  generalize hL : loopA _ _ _ = L
  apply loop_post hL (fun i : Nat => i ≤ s.length ∧ i + skipN false (s.drop i) = N) (fun i => s.length - i)
    (fun i => ⟨[(0, .d (.str s)), (1, .d (.int .i64 i)), (4, .d (.int .i64 0))], [], []⟩)
    i (by simp (config := { maxSteps := 4000000 }) (disch := first | (intros; contradiction) | omega) only [go_sem]) ⟨hi, hN⟩
  clear hN hL hi
  clear i
  rintro i ⟨hi, hN⟩ next ih
  by_cases h : i < s.length
  · obtain ⟨hc, hd, hlt⟩ := dropC h
    have hsk := hN
    rw [hd] at hsk
    simp only [skipN] at hsk
    have hnx : i + 1 + skipN false (s.drop (i + 1)) = i + (1 + skipN false (s.drop (i + 1))) := by omega
    by_cases b1 : s[i] = 32
    · have c1 := byteY 32 b1 (n := 32) rfl
      simp [isBlank, b1] at hsk
      simp (config := { maxSteps := 4000000 }) (disch := first | (intros; contradiction) | omega) only [go_sem, hc, hlt, c1, wrap64]
      exact ih (i + 1) _ ⟨by omega, by omega⟩ (by omega) (by simp (config := { maxSteps := 4000000 }) (disch := first | (intros; contradiction) | omega) only [go_sem] <;> rfl)
    have c1 := byteN 32 b1 (n := 32) rfl
    by_cases b2 : s[i] = 9
    · have c2 := byteY 9 b2 (n := 9) rfl
      simp [isBlank, b2] at hsk
      simp (config := { maxSteps := 4000000 }) (disch := first | (intros; contradiction) | omega) only [go_sem, hc, hlt, c2, wrap64]
      exact ih (i + 1) _ ⟨by omega, by omega⟩ (by omega) (by simp (config := { maxSteps := 4000000 }) (disch := first | (intros; contradiction) | omega) only [go_sem] <;> rfl)
    have c2 := byteN 9 b2 (n := 9) rfl
    by_cases b3 : s[i] = 10
    · have c3 := byteY 10 b3 (n := 10) rfl
      simp [isBlank, b3] at hsk
      simp (config := { maxSteps := 4000000 }) (disch := first | (intros; contradiction) | omega) only [go_sem, hc, hlt, c3, wrap64]
      exact ih (i + 1) _ ⟨by omega, by omega⟩ (by omega) (by simp (config := { maxSteps := 4000000 }) (disch := first | (intros; contradiction) | omega) only [go_sem] <;> rfl)
    have c3 := byteN 10 b3 (n := 10) rfl
    have hcs : isBlank s[i] = false := by simp [isBlank, b1, b2, b3]
    rw [hcs, if_neg (by simp)] at hsk
    by_cases hcm : s[i] = 47 ∧ (s.drop (i + 1)).head? = some 47
    · rw [if_pos hcm] at hsk
      obtain ⟨b4, h5⟩ := hcm
      have h2 : i + 1 < s.length := by
        apply Nat.lt_of_not_le
        intro hle
        rw [List.drop_of_length_le hle] at h5
        cases h5
      obtain ⟨hc2, hd2, _⟩ := dropC h2
      rw [hd2, List.head?_cons] at h5
      simp only [Option.some.injEq] at h5
      have hlt2 : (i : Int) + 1 < s.length := by omega
      have ht : ((i : Int) + 1).toNat = i + 1 := by omega
      have c4 := byteY 47 b4 (n := 47) rfl
      have c5 := byteY 47 h5 (n := 47) rfl
      have h1 : (0 : Int) ≤ (i : Int) + 1 := by omega
      simp (config := { maxSteps := 4000000 }) (disch := first | (intros; contradiction) | omega) only [go_sem, hc, hlt, hc2, hlt2, h1, ht, c4, c5, wrap64]
      generalize hL : loopA _ _ _ = L
      apply loop_post hL (fun j : Nat => i < j ∧ j ≤ s.length ∧ j + skipN true (s.drop j) = N ∨ j = i) (fun j => s.length - j)
        (fun j => ⟨[(0, .d (.str s)), (1, .d (.int .i64 j)), (4, .d (.int .i64 0))], [], []⟩)
        i (by simp (config := { maxSteps := 4000000 }) (disch := first | (intros; contradiction) | omega) only [go_sem]) (.inr rfl)
      intro j hj next2 ih2
      by_cases h3 : j < s.length
      · obtain ⟨hc3, hd3, hlt3⟩ := dropC h3
        by_cases b6 : s[j] = 10
        · have c6 := byteY 10 b6 (n := 10) rfl
          rcases hj with ⟨hj1, hj2, hj3⟩ | rfl
          · rw [hd3] at hj3
            simp only [skipN, b6, if_true] at hj3
            simp (config := { maxSteps := 4000000 }) (disch := first | (intros; contradiction) | omega) only [go_sem, hc3, hlt3, c6]
            exact ih j _ ⟨by omega, by rw [hd3]; simp only [skipN, isBlank, b6]; simpa using hj3⟩ (by omega) (by simp (config := { maxSteps := 4000000 }) (disch := first | (intros; contradiction) | omega) only [go_sem] <;> rfl)
          · exact absurd b6 b3
        · have c6 := byteN 10 b6 (n := 10) rfl
          simp (config := { maxSteps := 4000000 }) (disch := first | (intros; contradiction) | omega) only [go_sem, hc3, hlt3, c6, wrap64]
          refine ih2 (j + 1) _ (.inl ⟨?_, by omega, ?_⟩) (by omega) (by simp (config := { maxSteps := 4000000 }) (disch := first | (intros; contradiction) | omega) only [go_sem] <;> rfl)
          · rcases hj with ⟨hj1, _, _⟩ | rfl <;> omega
          · rcases hj with ⟨hj1, hj2, hj3⟩ | rfl
            · rw [hd3] at hj3
              simp only [skipN, b6, if_false] at hj3
              omega
            · omega
      · have hlt3 : ¬ (j : Int) < s.length := by omega
        simp (config := { maxSteps := 4000000 }) (disch := first | (intros; contradiction) | omega) only [go_sem, hlt3]
        rcases hj with ⟨hj1, hj2, hj3⟩ | rfl
        · refine ih j _ ⟨hj2, ?_⟩ (by omega) (by simp (config := { maxSteps := 4000000 }) (disch := first | (intros; contradiction) | omega) only [go_sem] <;> rfl)
          have he : j = s.length := by omega
          rw [he, List.drop_length] at hj3 ⊢
          simpa [skipN] using hj3
        · omega
    · rw [if_neg hcm] at hsk
      have hres : i = N := by omega
      rw [← hres]
      by_cases b4 : s[i] = 47
      · have c4 := byteY 47 b4 (n := 47) rfl
        by_cases h2 : i + 1 < s.length
        · obtain ⟨hc2, hd2, _⟩ := dropC h2
          have hlt2 : (i : Int) + 1 < s.length := by omega
          have ht : ((i : Int) + 1).toNat = i + 1 := by omega
          have h1 : (0 : Int) ≤ (i : Int) + 1 := by omega
          have c5 := byteN 47 (c := s[i + 1]) (n := 47) (fun e => hcm ⟨b4, by rw [hd2, e]; rfl⟩) rfl
          simp (config := { maxSteps := 4000000 }) (disch := first | (intros; contradiction) | omega) only [go_sem, hc, hlt, hc2, hlt2, h1, ht, c4, c5, wrap64]
        · have hlt2 : ¬ (i : Int) + 1 < s.length := by omega
          simp (config := { maxSteps := 4000000 }) (disch := first | (intros; contradiction) | omega) only [go_sem, hc, hlt, hlt2, c4, wrap64]
      · have c4 := byteN 47 b4 (n := 47) rfl
        by_cases h2 : i + 1 < s.length
        · have hlt2 : (i : Int) + 1 < s.length := by omega
          simp (config := { maxSteps := 4000000 }) (disch := first | (intros; contradiction) | omega) only [go_sem, hc, hlt, c1, c2, c3, hlt2, c4, wrap64]
        · have hlt2 : ¬ (i : Int) + 1 < s.length := by omega
          simp (config := { maxSteps := 4000000 }) (disch := first | (intros; contradiction) | omega) only [go_sem, hc, hlt, c1, c2, c3, hlt2, wrap64]
  · have hlt : ¬ (i : Int) < s.length := by omega
    have he : s.drop i = [] := List.drop_of_length_le (by omega)
    rw [he] at hN
    simp only [skipN, Nat.add_zero] at hN
    subst hN
    simp (config := { maxSteps := 4000000 }) (disch := first | (intros; contradiction) | omega) only [go_sem, hlt]
theorem rplace_e (hx : TX ext) (s : List UInt8) (n : Nat) (hs : s.length ≤ 1048576) (hi : n ≤ s.length) : G ext 20 [.d (.str s), .d (.int .i64 n)] [] = some (.ret (.agg [.d (.int .i64 (adv (1, 1) (s.take n)).1), .d (.int .i64 (adv (1, 1) (s.take n)).2)]), []) := by
  rw [G_body hx.clear rfl Try.func20 rfl Try.results20 hv_20 rfl]
  simp (config := { maxSteps := 4000000 }) (disch := first | (intros; contradiction) | omega) only [go_sem]
  generalize hL : loopA _ _ _ = L
  apply loop_post hL (fun i : Nat => i ≤ n) (fun i => n - i)
    (fun i => ⟨[(0, .d (.str s)), (1, .d (.int .i64 n)), (4, .ptr 0 0), (5, .ptr 1 0), (6, .d (.int .i64 i))], [], [.cells [.d (.int .i64 0), .d (.int .i64 0)], .cells [.d (.int .i64 (adv (1, 1) (s.take i)).1), .d (.int .i64 (adv (1, 1) (s.take i)).2)]]⟩)
    0 (by simp only [List.take_zero, adv, List.foldl_nil]; simp (config := { maxSteps := 4000000 }) (disch := first | (intros; contradiction) | omega) only [go_sem]) (Nat.zero_le _)
  intro i hin next ih
  by_cases h : i < n
  · obtain ⟨hc, _, _⟩ := dropC (show i < s.length by omega)
    have hlt' : (i : Int) < n := by omega
    have hle := adv_le (1, 1) (s.take i) ⟨by simp, by simp⟩
    simp only [List.length_take, Nat.min_eq_left (show i ≤ s.length by omega)] at hle
    have hst : adv (1, 1) (s.take (i + 1)) = adv1 (adv (1, 1) (s.take i)) s[i] := by
      rw [List.take_add_one, hc, adv_append]; rfl
    by_cases b3 : s[i] = 10
    · have c3 := byteY 10 b3 (n := 10) rfl
      simp only [adv1, b3, if_true] at hst
      simp (config := { maxSteps := 4000000 }) (disch := first | (intros; contradiction) | omega) only [go_sem, hc, hlt', c3, wrap64]
      exact ih (i + 1) _ (by omega) (by omega) (by simp only [hst]; simp (config := { maxSteps := 4000000 }) (disch := first | (intros; contradiction) | omega) only [go_sem] <;> rfl)
    · have c3 := byteN 10 b3 (n := 10) rfl
      simp only [adv1, b3, if_false] at hst
      simp (config := { maxSteps := 4000000 }) (disch := first | (intros; contradiction) | omega) only [go_sem, hc, hlt', c3, wrap64]
      exact ih (i + 1) _ (by omega) (by omega) (by simp only [hst]; simp (config := { maxSteps := 4000000 }) (disch := first | (intros; contradiction) | omega) only [go_sem] <;> rfl)
  · have hlt : ¬ (i : Int) < n := by omega
    have he : i = n := by omega
    subst he
    simp (config := { maxSteps := 4000000 }) (disch := first | (intros; contradiction) | omega) only [go_sem, hlt]
end Go.Proofs.Ytknonjnbeajooaa
