/- TokenPlaces: each token's text stands at its place. Conditions: none. -/
import Derived.Test.YtknonjnbeajooaaT12
namespace Go.Proofs.Ytknonjnbeajooaa
open Go Go.Ab
variable {ext : Sem'}
/-- Behind another place. -/
def Lt2 (p q : Int × Int) : Prop := p.1 < q.1 ∨ (p.1 = q.1 ∧ p.2 < q.2)
theorem Lt2.trans {p q r : Int × Int} (h : Lt2 p q) (k : Lt2 q r) : Lt2 p r := by unfold Lt2 at *; omega
theorem adv1_gt (p : Int × Int) (c : UInt8) : Lt2 p (adv1 p c) := by
  unfold adv1 Lt2
  split
  · exact .inl (by show p.1 < p.1 + 1; omega)
  · exact .inr ⟨rfl, by show p.2 < p.2 + 1; omega⟩
theorem adv_gt : ∀ (l : List UInt8) (p : Int × Int), l ≠ [] → Lt2 p (adv p l)
  | [], _, h => absurd rfl h
  | [c], p, _ => adv1_gt p c
  | c :: d :: t, p, _ => (adv1_gt p c).trans (adv_gt (d :: t) (adv1 p c) (by simp))
theorem adv_ne {s : List UInt8} {a o : Nat} (h : a < o) (ho : o ≤ s.length) (p : Int × Int) : adv p (s.take a) ≠ adv p (s.take o) := by
  intro he
  have e : s.take o = s.take a ++ (s.drop a).take (o - a) := by
    have : o = a + (o - a) := by omega
    rw [this, List.take_add]
    simp
  rw [e, adv_append] at he
  have := adv_gt ((s.drop a).take (o - a)) (adv p (s.take a)) (by
    intro h0
    have := congrArg List.length h0
    simp at this
    omega)
  rw [← he] at this
  unfold Lt2 at this
  omega
/-- Tokens that stand at their places. -/
def Placed (s : List UInt8) : List Tok → Nat → Prop
  | [], _ => False
  | t :: ts, a => ∃ o, a ≤ o ∧ o + t.text.length ≤ s.length ∧ t.pos = adv (1, 1) (s.take o) ∧ (s.drop o).take t.text.length = t.text ∧ (10 : UInt8) ∉ t.text ∧ (t.text.length = 0 ↔ ts = []) ∧ (ts ≠ [] → Placed s ts (o + t.text.length))
theorem spanL_all {p : UInt8 → Bool} {l : List UInt8} {c : UInt8} (h : c ∈ l.take (spanL p l)) : p c = true := by
  obtain ⟨i, hi, rfl⟩ := List.getElem_of_mem h
  simp at hi
  rw [List.getElem_take]
  exact spanL_at (by omega)
theorem lexR_flat {l : List UInt8} {k v : Int} {n : Nat} (h : lexR l = .tok k n v) : (10 : UInt8) ∉ l.take n := by
  cases l with
  | nil => simp
  | cons c t =>
    simp only [lexR] at h
    split at h
    · unfold wordR at h
      split at h
      · cases h
      · cases h
        exact fun hm => absurd (spanL_all hm) (by decide)
    · split at h
      · unfold numberR at h
        split at h
        · cases h
        · split at h
          · cases h
          · cases h
            exact fun hm => absurd (spanL_all hm) (by decide)
      · unfold signR at h
        split at h
        · rename_i h2
          cases h
          intro hm
          have : ∀ x, x ∈ signs2 → (10 : UInt8) ∉ x := by decide
          exact this _ h2.2 hm
        · split at h
          · rename_i h2
            cases h
            intro hm
            simp at hm
            subst hm
            simp [oneSign, signs1] at h2
          · cases h
theorem eachF_placed (s : List UInt8) : ∀ (g a : Nat), a ≤ s.length → s.length < a + g → (∀ x, x ∈ eachF g (s.drop a) (adv (1, 1) (s.take a)) → x.2 = Dg.zero) → Placed s ((eachF g (s.drop a) (adv (1, 1) (s.take a))).map (·.1)) a := by
  intro g
  induction g with
  | zero => intro a h1 h2; omega
  | succ g ih =>
    intro a h1 h2 hall
    simp only [eachF] at hall ⊢
    have hsk := skipN_le false (s.drop a)
    rw [List.length_drop] at hsk
    have e1 : adv (adv (1, 1) (s.take a)) ((s.drop a).take (skipN false (s.drop a))) = adv (1, 1) (s.take (a + skipN false (s.drop a))) := by
      rw [← adv_append, ← List.take_add]
    have e2 : (s.drop a).drop (skipN false (s.drop a)) = s.drop (a + skipN false (s.drop a)) := by rw [List.drop_drop]
    rw [e1, e2] at hall ⊢
    generalize ho : a + skipN false (s.drop a) = o at *
    cases hR : lexR (s.drop o) with
    | bad f =>
      rw [hR] at hall
      have := hall _ (List.mem_singleton.2 rfl)
      cases this
    | tok k n v =>
      rw [hR] at hall
      simp only at hall ⊢
      obtain ⟨k1, k2⟩ := lexR_tok hR
      rw [List.length_drop] at k1
      have hfl := lexR_flat hR
      have hlen : ((s.drop o).take n).length = n := by simp; omega
      by_cases hk : k = 5
      · subst hk
        have hn : n = 0 := by
          rcases k2 with ⟨_, _, h⟩ | ⟨h, _⟩
          · exact h
          · exact absurd rfl h
        subst hn
        rw [if_pos rfl]
        exact ⟨o, by omega, by simp; omega, rfl, by simp, by simp, by simp, by simp⟩
      · rw [if_neg hk] at hall ⊢
        have hn : 1 ≤ n := by
          rcases k2 with ⟨h, _, _⟩ | ⟨_, h⟩
          · exact absurd h hk
          · exact h
        have e3 : adv (adv (1, 1) (s.take o)) ((s.drop o).take n) = adv (1, 1) (s.take (o + n)) := by rw [← adv_append, ← List.take_add]
        have e4 : (s.drop o).drop n = s.drop (o + n) := by rw [List.drop_drop]
        rw [e3, e4] at hall ⊢
        have hp := ih (o + n) (by omega) (by omega) (fun x hx => hall x (by simp [hx]))
        simp only [List.map_cons, Placed]
        refine ⟨o, by omega, by rw [hlen]; omega, rfl, by rw [hlen], hfl, ?_, fun _ => by rw [hlen]; exact hp⟩
        rw [hlen]
        constructor
        · intro h; omega
        · intro h; rw [h] at hp; exact absurd hp (by simp [Placed])
theorem eachL_placed {s : List UInt8} (hs : s.length ≤ 1048576) (h : ∀ x, x ∈ eachL s → x.2 = Dg.zero) : Placed s ((eachL s).map (·.1)) 0 := by
  unfold eachL at h ⊢
  rw [if_neg (by omega)] at h ⊢
  exact eachF_placed s (s.length + 1) 0 (by omega) (by omega) h
theorem neqBool {P : Program} {t : TypeId} {a b : Bool} : binA P .neq t (.d (.bool a)) (.d (.bool b)) = notO (eqA P 12 t (.d (.bool a)) (.d (.bool b))) := rfl
set_option maxHeartbeats 8000000 in
theorem law4_e (hx : TX ext) (s : List UInt8) (hs : s.length ≤ 9223372036854775807) : G ext 4 [.d (.str s)] [] = some (.ret (.d (.bool true)), []) := by
  rw [G_body hx.clear rfl Try.func4 rfl Try.results4 hv_4 rfl]
  by_cases hlen : (3000 : Int) < s.length
  · simp (config := { maxSteps := 4000000 }) (disch := first | (intros; contradiction) | omega) only [go_sem, alive_e hx, hlen]
  · have hr := scan_e hx s
    rcases eachL_shape s with hg | ⟨gs, d, he, hd, hg⟩
    · rw [scanR_good hg] at hr
      have hpl := eachL_placed (by omega) hg
      have htl0 : ((eachL s).map (·.1)).length ≤ 1048577 := by rw [List.length_map]; exact eachL_len s
      generalize (eachL s).map (·.1) = ts at hr hpl htl0
      simp only [Dg.av, Dg.zero] at hr
      simp (config := { maxSteps := 4000000 }) (disch := first | (intros; contradiction) | omega) only [go_sem, hlen, hr]
      generalize hL : loopA _ _ _ = L
      have htl : ts.length ≤ 1048577 := htl0
      have hrl : (rowsT ts).length = ts.length := by unfold rowsT; simp
      apply loop_post hL (fun x : Nat × Nat => x.1 ≤ ts.length ∧ x.2 ≤ s.length ∧ (x.1 < ts.length → Placed s (ts.drop x.1) x.2)) (fun x => ts.length - x.1)
        (fun x => ⟨[(0, .d (.str s)), (2, .d (.bool false)), (3, .d (.sl (rowsT ts))), (4, .ptr 0 0), (5, .d (.int .i64 x.2)), (6, .ptr 1 0), (7, .d (.int .i64 x.1)), (8, .any)], [], [.cells [.d (.int .i64 0), .d (.int .i64 0), .d (.int .i64 0), .d (.int .i64 0)], .cells [.d (.int .i64 (adv (1, 1) (s.take x.2)).1), .d (.int .i64 (adv (1, 1) (s.take x.2)).2)]]⟩)
        (0, 0) (by simp only [List.take_zero, adv, List.foldl_nil]; simp (config := { maxSteps := 4000000 }) (disch := first | (intros; contradiction) | omega) only [go_sem] <;> rfl) ⟨by simp, by simp, fun _ => hpl⟩
      clear hL hr hpl
      rintro ⟨i, a⟩ ⟨i1, i2, i3⟩ next ih
      simp only at i1 i2 i3 ih ⊢
      by_cases h : i < ts.length
      · have hlt : (i : Int) < ((rowsT ts).length : Int) := by omega
        have hp := i3 h
        rw [List.drop_eq_getElem_cons h] at hp
        have hrow : (rowsT ts)[i]? = some (Tok.row ts[i]) := by unfold rowsT; rw [List.getElem?_map, List.getElem?_eq_getElem h]; rfl
        generalize ts[i] = t at hp hrow
        obtain ⟨o, o1, o2, o3, o4, o5, o6, o7⟩ := hp
        simp only [Tok.row] at hrow
        obtain ⟨k, text, num, pos⟩ := t
        simp only at o2 o3 o4 o5 o6 o7 hrow
        subst o3
        simp (config := { maxSteps := 4000000 }) (disch := first | (intros; contradiction) | omega) only [go_sem, hlt]
        generalize hL : loopA _ _ _ = L
        apply loop_post hL (fun j : Nat => a ≤ j ∧ j ≤ o) (fun j => o - j)
          (fun j => ⟨[(0, .d (.str s)), (2, .d (.bool false)), (3, .d (.sl (rowsT ts))), (4, .ptr 0 0), (5, .d (.int .i64 j)), (6, .ptr 1 0), (7, .d (.int .i64 i)), (8, .any)], [], [.cells [.d (.int .i64 0), .d (.int .i64 0), .d (.int .i64 0), .d (.int .i64 0)], .cells [.d (.int .i64 (adv (1, 1) (s.take j)).1), .d (.int .i64 (adv (1, 1) (s.take j)).2)]]⟩)
          a (by simp (config := { maxSteps := 4000000 }) (disch := first | (intros; contradiction) | omega) only [go_sem]) ⟨Nat.le_refl _, o1⟩
        clear hL
        rintro j ⟨j1, j2⟩ next2 ih2
        by_cases hj : j < o
        · obtain ⟨hc, _, hjl⟩ := dropC (show j < s.length by omega)
          have hle := adv_le (1, 1) (s.take j) ⟨by simp, by simp⟩
          simp only [List.length_take, Nat.min_eq_left (show j ≤ s.length by omega)] at hle
          have hst : adv (1, 1) (s.take (j + 1)) = adv1 (adv (1, 1) (s.take j)) s[j] := by
            rw [List.take_add_one, hc, adv_append]; rfl
          have hne : ¬ ((adv (1, 1) (s.take j)).1 = (adv (1, 1) (s.take o)).1 ∧ (adv (1, 1) (s.take j)).2 = (adv (1, 1) (s.take o)).2) := fun hh => adv_ne hj (by omega) (1, 1) (Prod.ext hh.1 hh.2)
          by_cases b3 : s[j] = 10
          · have c3 := byteY 10 b3 (n := 10) rfl
            simp only [adv1, b3, if_true] at hst
            by_cases e1 : (adv (1, 1) (s.take j)).1 = (adv (1, 1) (s.take o)).1
            · have e2 : ¬ (adv (1, 1) (s.take j)).2 = (adv (1, 1) (s.take o)).2 := fun h2 => hne ⟨e1, h2⟩
              simp (config := { maxSteps := 4000000 }) (disch := first | (intros; contradiction) | omega) only [go_sem, hc, hjl, c3, wrap64, hrow, e1, e2]
              exact ih2 (j + 1) _ ⟨by omega, by omega⟩ (by omega) (by simp only [hst, e1]; simp (config := { maxSteps := 4000000 }) (disch := first | (intros; contradiction) | omega) only [go_sem] <;> rfl)
            · simp (config := { maxSteps := 4000000 }) (disch := first | (intros; contradiction) | omega) only [go_sem, hc, hjl, c3, wrap64, hrow, e1]
              exact ih2 (j + 1) _ ⟨by omega, by omega⟩ (by omega) (by simp only [hst]; simp (config := { maxSteps := 4000000 }) (disch := first | (intros; contradiction) | omega) only [go_sem] <;> rfl)
          · have c3 := byteN 10 b3 (n := 10) rfl
            simp only [adv1, b3, if_false] at hst
            by_cases e1 : (adv (1, 1) (s.take j)).1 = (adv (1, 1) (s.take o)).1
            · have e2 : ¬ (adv (1, 1) (s.take j)).2 = (adv (1, 1) (s.take o)).2 := fun h2 => hne ⟨e1, h2⟩
              simp (config := { maxSteps := 4000000 }) (disch := first | (intros; contradiction) | omega) only [go_sem, hc, hjl, c3, wrap64, hrow, e1, e2]
              exact ih2 (j + 1) _ ⟨by omega, by omega⟩ (by omega) (by simp only [hst, e1]; simp (config := { maxSteps := 4000000 }) (disch := first | (intros; contradiction) | omega) only [go_sem] <;> rfl)
            · simp (config := { maxSteps := 4000000 }) (disch := first | (intros; contradiction) | omega) only [go_sem, hc, hjl, c3, wrap64, hrow, e1]
              exact ih2 (j + 1) _ ⟨by omega, by omega⟩ (by omega) (by simp only [hst]; simp (config := { maxSteps := 4000000 }) (disch := first | (intros; contradiction) | omega) only [go_sem] <;> rfl)
        · have hjo : j = o := by omega
          subst hjo
          clear ih2 hj j1 j2
          have hle := adv_le (1, 1) (s.take j) ⟨by simp, by simp⟩
          simp only [List.length_take, Nat.min_eq_left (show j ≤ s.length by omega)] at hle
          have hadv : adv (1, 1) (s.take (j + text.length)) = ((adv (1, 1) (s.take j)).1, (adv (1, 1) (s.take j)).2 + text.length) := by
            rw [List.take_add, o4, adv_append, adv_flat _ _ o5]
          by_cases hn : text.length = 0
          · have hnil := o6.1 hn
            have hti : ((rowsT ts).length : Int) - 1 = (i : Int) := by have := congrArg List.length hnil; simp at this; omega
            obtain rfl : text = [] := List.length_eq_zero_iff.1 hn
            have hb0 : ¬ (s.length : Int) < (j : Int) + 0 := by omega
            have hb1 : (j : Int) ≤ (j : Int) + 0 := by omega
            have hb2 : (j : Int) + 0 ≤ (s.length : Int) := by omega
            have hb3 : ((j : Int) + 0).toNat - j = 0 := by omega
            by_cases hjs : (j : Int) < (s.length : Int)
            · simp (config := { maxSteps := 4000000 }) (disch := first | (intros; contradiction) | omega) only [go_sem, hjs, hrow, hti, hb0, hb1, hb2, hb3, neqBool, List.take_zero, and_self, List.length_nil, wrap64]
              exact ih (i + 1, j) _ ⟨by omega, by omega, fun h3 => absurd hnil (by simp; omega)⟩ (by omega) (by simp (config := { maxSteps := 4000000 }) (disch := first | (intros; contradiction) | omega) only [go_sem] <;> rfl)
            · simp (config := { maxSteps := 4000000 }) (disch := first | (intros; contradiction) | omega) only [go_sem, hjs, hrow, hti, hb0, hb1, hb2, hb3, neqBool, List.take_zero, and_self, List.length_nil, wrap64]
              exact ih (i + 1, j) _ ⟨by omega, by omega, fun h3 => absurd hnil (by simp; omega)⟩ (by omega) (by simp (config := { maxSteps := 4000000 }) (disch := first | (intros; contradiction) | omega) only [go_sem] <;> rfl)
          · have hjs : (j : Int) < (s.length : Int) := by omega
            have hb : ¬ (s.length : Int) < (j : Int) + (text.length : Int) := by omega
            have hti : ¬ (i : Int) = ((rowsT ts).length : Int) - 1 := fun hh => hn (o6.2 (List.drop_eq_nil_of_le (by omega)))
            have hb1 : (j : Int) ≤ (j : Int) + (text.length : Int) := by omega
            have hb2 : (j : Int) + (text.length : Int) ≤ (s.length : Int) := by omega
            have hb3 : ((j : Int) + (text.length : Int)).toNat - j = text.length := by omega
            have hn' : ¬ (text.length : Int) = 0 := by omega
            have hn2 : (0 : Int) < (text.length : Int) := by omega
            simp (config := { maxSteps := 4000000 }) (disch := first | (intros; contradiction) | omega) only [go_sem, hjs, hrow, hn', hn2, hti, hb, hb1, hb2, hb3, o4, neqBool, and_self, wrap64]
            exact ih (i + 1, j + text.length) _ ⟨by omega, by omega, fun h3 => o7 (fun h4 => hn (o6.2 h4))⟩ (by omega) (by simp only [hadv]; simp (config := { maxSteps := 4000000 }) (disch := first | (intros; contradiction) | omega) only [go_sem] <;> rfl)
      · have hlt : ¬ (i : Int) < ((rowsT ts).length : Int) := by omega
        simp (config := { maxSteps := 4000000 }) (disch := first | (intros; contradiction) | omega) only [go_sem, alive_e hx, hlt]
    · rw [he, scanR_bad hg hd] at hr
      simp only [Dg.av] at hr
      simp (config := { maxSteps := 4000000 }) (disch := first | (intros; contradiction) | omega) only [go_sem, alive_e hx, hlen, hr, hd]
end Go.Proofs.Ytknonjnbeajooaa
