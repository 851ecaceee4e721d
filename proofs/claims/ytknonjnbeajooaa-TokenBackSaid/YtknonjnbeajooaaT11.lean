/- the document's token: all tokens. Conditions: none. -/
import Derived.Test.YtknonjnbeajooaaT10
namespace Go.Proofs.Ytknonjnbeajooaa
open Go Go.Ab
variable {ext : Sem'}
/-- One token of the document, of what follows. -/
theorem rone_e (hx : TX ext) (s : List UInt8) (i : Nat) (hs : s.length ≤ 1048576) (hi : i < s.length) : ∃ k t v f, G ext 21 [.d (.str s), .d (.int .i64 i)] [] = some (.ret (.tuple [tokA k t v (0, 0), .d (.int .i64 f)]), []) ∧ match lexR (s.drop i) with
    | .bad f' => f = f'
    | .tok k' n v' => f = 0 ∧ k = k' ∧ v = v' ∧ t = (s.drop i).take n := by
  obtain ⟨hc, hd, _⟩ := dropC hi
  cases h1 : isLetter s[i] with
  | true =>
    have h := rone1_e hx s i hs _ hc h1
    refine ⟨_, _, _, _, h, ?_⟩
    have hl : lexR (s.drop i) = wordR (s.drop i) := by rw [hd]; simp only [lexR, h1, if_true]
    rw [hl]
    unfold wordR
    by_cases h40 : 40 < spanL isInner (s.drop i)
    · simp [h40]
    · simp [h40]
  | false =>
    cases h2 : isDigit s[i] with
    | true =>
      have h := rone2_e hx s i hs _ hc h1 h2
      refine ⟨_, _, _, _, h, ?_⟩
      have hl : lexR (s.drop i) = numberR (s.drop i) := by rw [hd]; simp [lexR, h1, h2]
      rw [hl]
      unfold numberR
      generalize spanL isDigit (s.drop i) = n
      have hcap : (2147483647 < capV ((s.drop i).take n) ↔ 2147483647 < natVal ((s.drop i).take n)) ∧ (¬ 2147483647 < natVal ((s.drop i).take n) → capV ((s.drop i).take n) = (natVal ((s.drop i).take n) : Nat)) := by
        unfold capV
        split <;> omega
      by_cases ho : oddNum (s.drop i) n = true
      · simp [ho]
      · by_cases hb : 2147483647 < natVal ((s.drop i).take n)
        · simp [ho, hb, hcap.1.2 hb]
        · simp [ho, hb, hcap.2 hb]; omega
    | false =>
      have h := rone3_e hx s i hs _ hc h1 h2
      have hl : lexR (s.drop i) = signR (s.drop i) := by rw [hd]; simp [lexR, h1, h2]
      rw [hl]
      have hf := fs_sign s[i] (s.drop (i + 1))
      rw [← hd] at hf
      cases hfs : fs (s.drop i) signsL with
      | none =>
        rw [hfs] at h hf
        simp only at hf
        exact ⟨_, _, _, _, h, by rw [hf]⟩
      | some x =>
        rw [hfs] at h hf
        simp only at hf
        exact ⟨_, _, _, _, h, by rw [hf.1]; exact ⟨rfl, rfl, rfl, hf.2⟩⟩
/-- What the iterator gives from there on, behind blanks. -/
def eachG (g : Nat) (l : List UInt8) (p : Int × Int) : List (Tok × Dg) :=
  match lexR l with
  | .bad f => [(Tok.zero, ⟨1, f, p⟩)]
  | .tok k n v => (⟨k, l.take n, v, p⟩, Dg.zero) :: if k = 5 then [] else eachF g (l.drop n) (adv p (l.take n))
theorem eachF_succ (g : Nat) (l : List UInt8) (p : Int × Int) : eachF (g + 1) l p = eachG g (l.drop (skipN false l)) (adv p (l.take (skipN false l))) := rfl
theorem adv_rel (p : Int × Int) (l : List UInt8) : 1 ≤ (adv (1, 1) l).1 ∧ 1 ≤ (adv (1, 1) l).2 ∧ adv p l = if 1 < (adv (1, 1) l).1 then (p.1 + (adv (1, 1) l).1 - 1, (adv (1, 1) l).2) else (p.1, p.2 + (adv (1, 1) l).2 - 1) := by
  have key : ∀ (l : List UInt8) (q : Int × Int), 1 ≤ q.1 → 1 ≤ q.2 → 1 ≤ (adv q l).1 ∧ 1 ≤ (adv q l).2 ∧ ∀ p0 : Int × Int, adv (if 1 < q.1 then (p0.1 + q.1 - 1, q.2) else (p0.1, p0.2 + q.2 - 1)) l = if 1 < (adv q l).1 then (p0.1 + (adv q l).1 - 1, (adv q l).2) else (p0.1, p0.2 + (adv q l).2 - 1) := by
    intro l
    induction l with
    | nil => intro q h1 h2; exact ⟨h1, h2, fun _ => rfl⟩
    | cons c l ih =>
      intro q h1 h2
      have e : ∀ q, adv q (c :: l) = adv (adv1 q c) l := fun _ => rfl
      simp only [e]
      have h := ih (adv1 q c) (by unfold adv1; split <;> simp <;> omega) (by unfold adv1; split <;> simp <;> omega)
      refine ⟨h.1, h.2.1, fun p0 => ?_⟩
      rw [← h.2.2 p0]
      congr 1
      unfold adv1
      by_cases hc : c = 10
      · simp only [hc, if_true]
        split
        · rw [if_pos (by omega)]; simp; omega
        · rw [if_pos (by omega)]; simp; omega
      · simp only [hc, if_false]
        split
        · rfl
        · simp; omega
  have h := key l (1, 1) (by simp) (by simp)
  refine ⟨h.1, h.2.1, ?_⟩
  have := h.2.2 p
  simp only [Int.lt_irrefl, if_false] at this
  rw [← this]
  congr 1
  obtain ⟨a, b⟩ := p
  simp
def refR (l : List (Tok × Dg)) : List Tok × Dg := ((l.filter fun x => decide (x.2.what = 0)).map (·.1), (firstBad l).getD Dg.zero)
theorem refR_good (ts : List Tok) : refR (ts.map fun t => (t, Dg.zero)) = (ts, Dg.zero) := by
  have h : ∀ x, x ∈ ts.map (fun t => (t, Dg.zero)) → x.2 = Dg.zero := by
    intro x hx; obtain ⟨t, _, rfl⟩ := List.mem_map.1 hx; rfl
  unfold refR firstBad
  rw [List.filter_eq_self.2 (fun x hx => by rw [h x hx]; rfl), List.find?_eq_none.2 (fun x hx => by rw [h x hx]; simp [Dg.zero])]
  simp [Function.comp_def]
theorem refR_bad (ts : List Tok) {t : Tok} {d : Dg} (hd : d.what ≠ 0) : refR (ts.map (fun t => (t, Dg.zero)) ++ [(t, d)]) = (ts, d) := by
  have h : ∀ x, x ∈ ts.map (fun t => (t, Dg.zero)) → x.2 = Dg.zero := by
    intro x hx; obtain ⟨t, _, rfl⟩ := List.mem_map.1 hx; rfl
  unfold refR firstBad
  rw [List.filter_append, List.filter_eq_self.2 (fun x hx => by rw [h x hx]; rfl), List.find?_append, List.find?_eq_none.2 (fun x hx => by rw [h x hx]; simp [Dg.zero])]
  simp [Function.comp_def, hd]
theorem rowsT_snoc (ts : List Tok) (t : Tok) : rowsT (ts ++ [t]) = rowsT ts ++ [[.int .i64 t.kind, .str t.text, .int .i64 t.num, .int .i64 t.pos.1, .int .i64 t.pos.2]] := by unfold rowsT; rw [List.map_append]; rfl
set_option maxHeartbeats 4000000 in
theorem rscan_e (hx : TX ext) (s : List UInt8) (hs : s.length ≤ 3000) : G ext 8 [.d (.str s)] [] = some (.ret (.tuple [.d (.sl (rowsT (refR (eachL s)).1)), (refR (eachL s)).2.av]), []) := by
  rw [G_body hx.clear rfl Try.func8 rfl Try.results8 hv_8 rfl]
  have hlt : ¬ (1048576 : Int) < s.length := by omega
  have h1 := rskip_e hx s 0 (by omega) (by omega)
  have hsk0 := skipN_le false s
  have h2 := rplace_e hx s (0 + skipN false (s.drop 0)) (by omega) (by simpa using hsk0)
  simp only [List.drop_zero, Nat.zero_add, Int.natCast_zero] at h1 h2
  simp (config := { maxSteps := 4000000 }) (disch := first | (intros; contradiction) | omega) only [go_sem, hlt, h1, h2]
  have hadv0 := adv_le (1, 1) (s.take (skipN false s)) ⟨by simp, by simp⟩
  rw [List.length_take, Nat.min_eq_left hsk0] at hadv0
  generalize hL : loopA _ _ _ = L
  apply loop_post hL (fun x : Nat × List Tok × Nat × (Int × Int) => x.1 ≤ s.length ∧ x.2.1.length ≤ x.1 ∧ eachL s = x.2.1.map (fun t => (t, Dg.zero)) ++ eachG x.2.2.1 (s.drop x.1) x.2.2.2 ∧ s.length ≤ x.1 + x.2.2.1 ∧ 1 ≤ x.2.2.2.1 ∧ x.2.2.2.1 ≤ 1 + x.1 ∧ 1 ≤ x.2.2.2.2 ∧ x.2.2.2.2 ≤ 1 + x.1) (fun x => s.length - x.1)
    (fun x => ⟨[(0, .d (.str s)), (2, .grow 0 0 []), (3, .ptr 1 0), (4, .grow 2 x.2.1.length (rowsT x.2.1)), (5, .d (.int .i64 x.1)), (6, .ptr 3 0), (7, .any), (8, .any), (9, .any), (10, .any)], [], [.grow 0 5, .cells [.d (.int .i64 0), .d (.int .i64 0), .d (.int .i64 0), .d (.int .i64 0)], .grow x.2.1.length 5, .cells [.d (.int .i64 x.2.2.2.1), .d (.int .i64 x.2.2.2.2)]]⟩)
    (skipN false s, [], s.length, adv (1, 1) (s.take (skipN false s))) (by simp (config := { maxSteps := 4000000 }) (disch := first | (intros; contradiction) | omega) only [go_sem] <;> rfl) ⟨hsk0, by simp, by unfold eachL; rw [if_neg (by omega), eachF_succ]; rfl, by simp, by simp only at hadv0 ⊢; omega, by simp only at hadv0 ⊢; omega, by simp only at hadv0 ⊢; omega, by simp only at hadv0 ⊢; omega⟩
  clear hL h1 h2 hadv0
  rintro ⟨i, ts, g, p⟩ ⟨i1, i2, i3, i4, i5, i6, i7, i8⟩ next ih
  simp only at i1 i2 i3 i4 i5 i6 i7 i8 ih ⊢
  have hroom : room ((rowsT ts).length + 1) 48 := room_tok (by unfold rowsT; simp; omega)
  by_cases h : i < s.length
  · obtain ⟨k, t, v, f, hone, hm⟩ := rone_e hx s i (by omega) h
    have hlt2 : (i : Int) < s.length := by omega
    unfold eachG at i3
    simp only [tokA] at hone
    cases hR : lexR (s.drop i) with
    | bad f' =>
      rw [hR] at hm i3
      simp only at hm i3
      subst hm
      have hf : ¬ f = 0 := by have := lexR_bad hR; omega
      rw [i3, refR_bad ts (by simpa using hf)]
      simp only [Dg.av]
      simp (config := { maxSteps := 4000000 }) (disch := first | (intros; contradiction) | omega) only [go_sem, hlt2, hone, hf]
    | tok k' n v' =>
      rw [hR] at hm i3
      simp only at hm i3
      obtain ⟨rfl, rfl, rfl, rfl⟩ := hm
      obtain ⟨hn1, hn2⟩ := lexR_tok hR
      have hne : s.drop i ≠ [] := by intro e; have := congrArg List.length e; simp at this; omega
      obtain ⟨hk5, hn0⟩ : k ≠ 5 ∧ 1 ≤ n := by rcases hn2 with ⟨_, e, _⟩ | h; exact absurd e hne; exact h
      rw [if_neg hk5] at i3
      rw [List.length_drop] at hn1
      have hsk := rskip_e hx s (i + n) (by omega) (by omega)
      have hskl := skipN_le false (s.drop (i + n))
      rw [List.length_drop] at hskl
      have hlen : ((s.drop i).take n).length = n := by rw [List.length_take, List.length_drop]; omega
      generalize hj : i + n + skipN false (s.drop (i + n)) = j at hsk
      have hji : j - i = n + skipN false (s.drop (i + n)) := by omega
      have hpl := rplace_e hx ((s.drop i).take (j - i)) (j - i) (by rw [List.length_take, List.length_drop]; omega) (by rw [List.length_take, List.length_drop]; omega)
      rw [List.take_take, Nat.min_self] at hpl
      have hrel := adv_rel p ((s.drop i).take (j - i))
      have hbd := adv_le (1, 1) ((s.drop i).take (j - i)) ⟨by simp, by simp⟩
      rw [List.length_take, List.length_drop, Nat.min_eq_left (by omega)] at hbd
      have hnx : eachL s = (ts ++ [(⟨k, (s.drop i).take n, v, p⟩ : Tok)]).map (fun t => (t, Dg.zero)) ++ eachG (g - 1) (s.drop j) (adv p ((s.drop i).take (j - i))) := by
        obtain ⟨g, rfl⟩ : ∃ g', g = g' + 1 := ⟨g - 1, by omega⟩
        have hdd : (s.drop i).drop n = s.drop (i + n) := List.drop_drop
        have hdj : (s.drop (i + n)).drop (skipN false (s.drop (i + n))) = s.drop j := by rw [List.drop_drop, hj]
        rw [i3, eachF_succ, hji, List.take_add, adv_append, hdd, hdj]
        simp only [List.map_append, List.map_cons, List.map_nil, List.append_assoc, List.cons_append, List.nil_append, Nat.add_sub_cancel]
      have q1 : (i : Int) + n = ((i + n : Nat) : Int) := by omega
      have q2 : (i : Int) ≤ (j : Int) := by omega
      have q3 : (j : Int) ≤ s.length := by omega
      have q4 : (j : Int) - i = ((j - i : Nat) : Int) := by omega
      by_cases hL1 : 1 < (adv (1, 1) ((s.drop i).take (j - i))).1
      · rw [if_pos hL1] at hrel
        obtain ⟨r1, r2, r3⟩ := hrel
        rw [r3] at hnx
        generalize hq : adv (1, 1) ((s.drop i).take (j - i)) = q at *
        simp (config := { maxSteps := 4000000 }) (disch := first | (intros; contradiction) | omega) only [go_sem, hlt2, hone, hroom, hlen, q1, hsk, q2, q3, q4, hpl, hL1, wrap64]
        exact ih (j, ts ++ [(⟨k, (s.drop i).take n, v, p⟩ : Tok)], g - 1, (p.1 + q.1 - 1, q.2)) _ ⟨by omega, by simp; omega, hnx, by simp only; omega, by simp only; omega, by simp only; omega, by simp only; omega, by simp only; omega⟩ (by omega) (by simp only [rowsT_snoc]; simp (config := { maxSteps := 4000000 }) (disch := first | (intros; contradiction) | omega) only [go_sem] <;> rfl)
      · rw [if_neg hL1] at hrel
        obtain ⟨r1, r2, r3⟩ := hrel
        rw [r3] at hnx
        generalize hq : adv (1, 1) ((s.drop i).take (j - i)) = q at *
        simp (config := { maxSteps := 4000000 }) (disch := first | (intros; contradiction) | omega) only [go_sem, hlt2, hone, hroom, hlen, q1, hsk, q2, q3, q4, hpl, hL1, wrap64]
        exact ih (j, ts ++ [(⟨k, (s.drop i).take n, v, p⟩ : Tok)], g - 1, (p.1, p.2 + q.2 - 1)) _ ⟨by omega, by simp; omega, hnx, by simp only; omega, by simp only; omega, by simp only; omega, by simp only; omega, by simp only; omega⟩ (by omega) (by simp only [rowsT_snoc]; simp (config := { maxSteps := 4000000 }) (disch := first | (intros; contradiction) | omega) only [go_sem] <;> rfl)
  · have hlt2 : ¬ (i : Int) < s.length := by omega
    have he : s.drop i = [] := List.drop_of_length_le (by omega)
    rw [he] at i3
    simp only [eachG, lexR, List.take_nil, if_true] at i3
    have i3' : eachL s = (ts ++ [(⟨5, [], 0, p⟩ : Tok)]).map (fun t => (t, Dg.zero)) := by rw [i3]; simp
    rw [i3', refR_good]
    simp only [Dg.av, Dg.zero]
    simp only [rowsT_snoc]
    simp (config := { maxSteps := 4000000 }) (disch := first | (intros; contradiction) | omega) only [go_sem, hlt2, hroom]
end Go.Proofs.Ytknonjnbeajooaa
