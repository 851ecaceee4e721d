/- Law 14, plain: clauses in order; what they resolve to; what is left of a formula. Conditions: none. -/
import Derived.Test.YtchedkjlhjfadaaC9
set_option linter.unusedSimpArgs false
set_option linter.unusedVariables false
namespace Go.Proofs.Ytchedkjlhjfadaa
open Go Go.Ab
theorem ltI_irrefl (x : Int) : ltI x x = false := by unfold ltI; simp
theorem ltI_total {x y : Int} (h : ¬ x = y) (h2 : ltI y x = false) : ltI x y = true := by
  unfold ltI at h2 ⊢
  simp only [Bool.or_eq_false_iff, Bool.and_eq_false_iff, decide_eq_false_iff_not] at h2
  simp only [Bool.or_eq_true, Bool.and_eq_true, decide_eq_true_eq]
  omega
theorem ltI_asym {x y : Int} (h : ltI x y = true) : ltI y x = false := by
  unfold ltI at h ⊢
  simp only [Bool.or_eq_true, Bool.and_eq_true, decide_eq_true_eq] at h
  simp only [Bool.or_eq_false_iff, Bool.and_eq_false_iff, decide_eq_false_iff_not]
  omega
theorem leI_trans {x y z : Int} (h : ltI y x = false) (h2 : ltI z y = false) : ltI z x = false := by
  unfold ltI at h h2 ⊢
  simp only [Bool.or_eq_false_iff, Bool.and_eq_false_iff, decide_eq_false_iff_not] at h h2 ⊢
  omega
theorem mem_ins {x z : Int} : ∀ {l : List Int}, z ∈ insI x l ↔ z = x ∨ z ∈ l
  | [] => by simp [insI]
  | y :: l => by
    unfold insI
    split
    · simp only [List.mem_cons, mem_ins (l := l)]
      constructor
      · rintro (h | h | h) <;> simp [h]
      · rintro (h | h | h) <;> simp [h]
    · simp only [List.mem_cons]
theorem mem_sort {z : Int} : ∀ {l : List Int}, z ∈ sortL l ↔ z ∈ l
  | [] => by simp [sortL]
  | x :: l => by simp only [sortL, mem_ins, mem_sort (l := l), List.mem_cons]
theorem mem_dd {z : Int} : ∀ {l : List Int}, z ∈ dd l ↔ z ∈ l
  | [] => by simp [dd]
  | [x] => by simp [dd]
  | x :: y :: l => by
    unfold dd
    split
    · rename_i h
      subst h
      rw [mem_dd (l := x :: l)]
      simp
    · simp only [List.mem_cons, mem_dd (l := y :: l)]
theorem mem_norm {z : Int} {c : List Int} : z ∈ normL c ↔ z ∈ c := by unfold normL; rw [mem_dd, mem_sort]
theorem ins_sorted {x : Int} : ∀ {l : List Int}, l.Pairwise (fun a b => ltI b a = false) → (insI x l).Pairwise (fun a b => ltI b a = false)
  | [], _ => by simp [insI]
  | y :: l, h => by
    rw [List.pairwise_cons] at h
    unfold insI
    split
    · rename_i hy
      rw [List.pairwise_cons]
      refine ⟨fun z hz => ?_, ins_sorted h.2⟩
      rcases mem_ins.1 hz with rfl | hz
      · exact ltI_asym hy
      · exact h.1 z hz
    · rename_i hy
      have hy : ltI y x = false := by simpa using hy
      rw [List.pairwise_cons]
      refine ⟨fun z hz => ?_, List.pairwise_cons.2 h⟩
      rcases List.mem_cons.1 hz with rfl | hz
      · exact hy
      · exact leI_trans hy (h.1 z hz)
theorem sort_sorted : ∀ (l : List Int), (sortL l).Pairwise (fun a b => ltI b a = false)
  | [] => by simp [sortL]
  | x :: l => ins_sorted (sort_sorted l)
theorem dd_strict : ∀ {l : List Int}, l.Pairwise (fun a b => ltI b a = false) → (dd l).Pairwise (fun a b => ltI a b = true)
  | [], _ => by simp [dd]
  | [x], _ => by simp [dd]
  | x :: y :: l, h => by
    have h0 := h
    rw [List.pairwise_cons] at h
    unfold dd
    split
    · exact dd_strict h.2
    · rename_i hxy
      rw [List.pairwise_cons]
      refine ⟨fun z hz => ?_, dd_strict h.2⟩
      rw [mem_dd] at hz
      refine ltI_total (fun e => ?_) (h.1 z hz)
      subst e
      rcases List.mem_cons.1 hz with e | hz
      · exact hxy e
      · have h1 := h.1 y (by simp)
        have h2 := (List.pairwise_cons.1 h.2).1 x hz
        have := ltI_total (fun e => hxy e.symm) h2
        rw [h1] at this
        cases this
theorem strict_sort : ∀ {l : List Int}, l.Pairwise (fun a b => ltI a b = true) → sortL l = l
  | [], _ => rfl
  | x :: l, h => by
    rw [List.pairwise_cons] at h
    rw [sortL, strict_sort h.2]
    cases l with
    | nil => rfl
    | cons y l => rw [insI, if_neg (by rw [ltI_asym (h.1 y (by simp))]; decide)]
theorem strict_dd : ∀ {l : List Int}, l.Pairwise (fun a b => ltI a b = true) → dd l = l
  | [], _ => rfl
  | [x], _ => rfl
  | x :: y :: l, h => by
    rw [List.pairwise_cons] at h
    rw [dd, if_neg, strict_dd h.2]
    rintro rfl
    have := h.1 x (by simp)
    rw [ltI_irrefl] at this
    cases this
/-- A clause in order is so again. -/
theorem norm_norm (c : List Int) : normL (normL c) = normL c := by
  have h : (normL c).Pairwise (fun a b => ltI a b = true) := dd_strict (sort_sorted c)
  show dd (sortL (normL c)) = normL c
  rw [strict_sort h, strict_dd h]
theorem all_mem {p : Int → Bool} {a b : List Int} (h : ∀ z, z ∈ a ↔ z ∈ b) : a.all p = b.all p := by
  rw [Bool.eq_iff_iff]
  simp only [List.all_eq_true]
  exact ⟨fun k z hz => k z ((h z).2 hz), fun k z hz => k z ((h z).1 hz)⟩
theorem any_mem {p : Int → Bool} {a b : List Int} (h : ∀ z, z ∈ a ↔ z ∈ b) : a.any p = b.any p := by
  rw [Bool.eq_iff_iff]
  simp only [List.any_eq_true]
  exact ⟨fun ⟨z, hz, k⟩ => ⟨z, (h z).1 hz, k⟩, fun ⟨z, hz, k⟩ => ⟨z, (h z).2 hz, k⟩⟩
theorem eval_norm (n : Int) (c : List Int) (m : List Bool) : evalP ⟨n, [normL c]⟩ m = evalP ⟨n, [c]⟩ m := by
  have h := @mem_norm (c := c)
  unfold evalP rightP allP
  simp only [List.all_cons, List.all_nil, List.length_cons, List.length_nil]
  rw [all_mem (fun z => h (z := z)), any_mem (fun z => h (z := z))]
theorem len_norm (c : List Int) : (normL c).length ≤ c.length := by have h1 := len_dd (sortL c); have h2 := len_sort c; unfold normL; omega
/-- A literal and its opposite. -/
theorem true_neg {m : List Bool} {x : Int} (h : x ≠ 0) : trueP m (0 - x) = !trueP m x := by
  have e : absI (0 - x) = absI x := by unfold absI; split <;> split <;> omega
  unfold trueP
  rw [e]
  generalize (m[(absI x - 1).toNat]?).getD false = b
  by_cases h1 : 0 < x
  · rw [decide_eq_false (show ¬ 0 < 0 - x by omega), decide_eq_true h1]; cases b <;> rfl
  · rw [decide_eq_true (show 0 < 0 - x by omega), decide_eq_false h1]; cases b <;> rfl
theorem evalP_one {n : Int} {c : List Int} {m : List Bool} (h0 : 0 ≤ n) (h1 : n ≤ 100000) (hm : (m.length : Int) = n) (hc : allP n c = true) : evalP ⟨n, [c]⟩ m = c.any (trueP m) := by
  unfold evalP rightP
  simp only [List.all_cons, List.all_nil, List.length_cons, List.length_nil, hc, Bool.and_true]
  rw [decide_eq_false (show ¬ n < 0 by omega), decide_eq_false (show ¬ 100000 < n by omega), decide_eq_true hm]
  simp
theorem has_iff {l : List Int} {v : Int} : hasP l v = true ↔ v ∈ l := by
  unfold hasP
  simp only [List.any_eq_true, decide_eq_true_eq]
  exact ⟨fun ⟨x, hx, e⟩ => e ▸ hx, fun h => ⟨v, h, rfl⟩⟩
/-- What clauses resolve to is true where they are. -/
theorem resolve_sound {n : Int} {a b c : List Int} {v : Int} {m : List Bool} (h0 : 0 ≤ n) (h1 : n ≤ 100000) (hm : (m.length : Int) = n) (ha : allP n a = true) (hb : allP n b = true) (hr : resolveP a b v = some c)
    (ta : a.any (trueP m) = true) (tb : b.any (trueP m) = true) : evalP ⟨n, [c]⟩ m = true := by
  unfold resolveP at hr
  split at hr
  · cases hr
  rename_i hv
  split at hr
  · cases hr
    have hmem : ∀ z, z ∈ normL (withoutP v a ++ withoutP (0 - v) b) ↔ (z ∈ a ∧ z ≠ v) ∨ (z ∈ b ∧ z ≠ 0 - v) := by
      intro z
      rw [mem_norm]
      simp only [withoutP, List.mem_append, List.mem_filter, decide_eq_true_eq]
    have hall : allP n (normL (withoutP v a ++ withoutP (0 - v) b)) = true := by
      unfold allP
      rw [List.all_eq_true]
      intro z hz
      rcases (hmem z).1 hz with h | h
      · exact List.all_eq_true.1 ha z h.1
      · exact List.all_eq_true.1 hb z h.1
    rw [evalP_one h0 h1 hm hall, List.any_eq_true]
    obtain ⟨x, hx, tx⟩ := List.any_eq_true.1 ta
    obtain ⟨y, hy, ty⟩ := List.any_eq_true.1 tb
    by_cases e : x = v
    · refine ⟨y, (hmem y).2 (.inr ⟨hy, fun e2 => ?_⟩), ty⟩
      rw [e2, true_neg (by intro e3; apply hv; left; omega), ← e, tx] at ty
      cases ty
    · exact ⟨x, (hmem x).2 (.inl ⟨hx, e⟩), tx⟩
  · cases hr
/-- A formula is true just if what is left of it, given a literal that is true, is so. -/
theorem given_sound {f : Fm} {x : Int} {m : List Bool} (hr : rightP f = true) (hm : (m.length : Int) = f.n) (hx : litP f.n x = true) (tx : trueP m x = true) : evalP (givenP f x) m = evalP f m := by
  obtain ⟨q0, q1, q2⟩ := right_inv hr
  obtain ⟨x0, x1, x2⟩ := lit_range q0 q1 hx
  have hw : IntKind.wrap .i64 (0 - x) = 0 - x := wrap64 (by omega) (by omega)
  have tn : trueP m (0 - x) = false := by rw [true_neg x0, tx]; rfl
  unfold givenP
  rw [if_pos ⟨hr, hx⟩, hw]
  have hcut : ∀ c, c ∈ f.l → (cutP (0 - x) c).any (trueP m) = c.any (trueP m) := by
    intro c _
    rw [Bool.eq_iff_iff]
    simp only [List.any_eq_true, cutP, List.mem_filter, Bool.not_eq_true', decide_eq_false_iff_not]
    refine ⟨fun ⟨z, hz, k⟩ => ⟨z, hz.1, k⟩, fun ⟨z, hz, k⟩ => ⟨z, ⟨hz, fun e => ?_⟩, k⟩⟩
    rw [e, tn] at k
    cases k
  have hall : ((f.l.filter fun c => !hasP c x).map (cutP (0 - x))).all (fun c => c.any (trueP m)) = f.l.all (fun c => c.any (trueP m)) := by
    rw [Bool.eq_iff_iff]
    simp only [List.all_eq_true, List.mem_map, List.mem_filter, Bool.not_eq_true']
    constructor
    · intro k c hc
      cases hh : hasP c x with
      | true => exact List.any_eq_true.2 ⟨x, has_iff.1 hh, tx⟩
      | false => rw [← hcut c hc]; exact k _ ⟨c, ⟨hc, hh⟩, rfl⟩
    · rintro k d ⟨c, ⟨hc, _⟩, rfl⟩
      rw [hcut c hc]
      exact k c hc
  have hri : rightP ⟨f.n, (f.l.filter fun c => !hasP c x).map (cutP (0 - x))⟩ = true := by
    unfold rightP at hr ⊢
    simp only [Bool.and_eq_true, Bool.not_eq_true', decide_eq_false_iff_not] at hr ⊢
    refine ⟨hr.1, hr.2.1, ?_, ?_⟩
    · have := List.length_filter_le (fun c => !hasP c x) f.l
      simp only [List.length_map]
      omega
    · rw [List.all_eq_true]
      intro d hd
      obtain ⟨c, hc, rfl⟩ := List.mem_map.1 hd
      unfold allP
      rw [List.all_eq_true]
      intro z hz
      exact q2 c (List.mem_filter.1 hc).1 z (List.mem_filter.1 hz).1
  unfold evalP
  rw [hri, hr]
  simp only [Bool.true_and]
  rw [hall]
end Go.Proofs.Ytchedkjlhjfadaa
