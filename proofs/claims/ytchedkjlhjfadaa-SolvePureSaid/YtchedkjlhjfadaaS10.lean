/- What the document says of literals that force: by rounds. Conditions: none. -/
import Derived.Test.YtchedkjlhjfadaaS9
import Derived.Test.YtchedkjlhjfadaaP14
set_option linter.unusedSimpArgs false
set_option linter.unusedVariables false
namespace Go.Proofs.Ytchedkjlhjfadaa
open Go Go.Ab
variable {ext : Sem'}
def gAll (f : Fm) (l : List Int) : Fm := l.foldl givenP f
def clashP (l : List Int) : Bool := l.any fun x => hasP l (IntKind.wrap .i64 (0 - x))
/-- What is reached from literals by what they force, one by one. -/
inductive DCh (f : Fm) (lits : List Int) : List Int → Prop
  | start : DCh f lits lits
  | step {d c : List Int} {x : Int} (h : DCh f lits d) (hc : clashP d = false) (hm : c ∈ (gAll f d).l) (hn : normR c = [x]) : DCh f lits (d ++ [x])
def DocR (f : Fm) (lits l : List Int) (b : Bool) : Prop :=
  (b = true ∧ ∃ d, DCh f lits d ∧ clashP d = false ∧ (∀ c, c ∈ (gAll f d).l → 2 ≤ (normR c).length) ∧ l = normR d) ∨
  (b = false ∧ l = [] ∧ ∃ d, DCh f lits d ∧ (clashP d = true ∨ clashP d = false ∧ ∃ c, c ∈ (gAll f d).l ∧ normR c = []))
theorem given_n (f : Fm) (x : Int) : (givenP f x).n = f.n := by unfold givenP; split <;> rfl
theorem gAll_n (f : Fm) (l : List Int) : (gAll f l).n = f.n := by
  unfold gAll
  induction l generalizing f with
  | nil => rfl
  | cons x l ih => rw [List.foldl_cons, ih, given_n]
theorem gAll_snoc (f : Fm) (l : List Int) (x : Int) : gAll f (l ++ [x]) = givenP (gAll f l) x := by unfold gAll; rw [List.foldl_append]; rfl
theorem given_short {f : Fm} (hs : Short f) (x : Int) : Short (givenP f x) := by
  refine ⟨?_, fun c hc => ?_⟩
  · have := hs.l
    unfold givenP
    split
    · have := List.length_filter_le (fun c => !hasP c x) f.l
      simp only [List.length_map]; omega
    · omega
  · unfold givenP at hc
    split at hc
    · obtain ⟨d, hd, rfl⟩ := List.mem_map.1 hc
      have h3 := hs.c d (List.mem_filter.1 hd).1
      have h4 : (cutP (IntKind.wrap .i64 (0 - x)) d).length ≤ d.length := List.length_filter_le _ _
      omega
    · exact hs.c c hc
theorem gAll_short {f : Fm} (hs : Short f) (l : List Int) : Short (gAll f l) := by
  unfold gAll
  induction l generalizing f with
  | nil => exact hs
  | cons x l ih => exact ih (given_short hs x)
theorem wneg {n x : Int} (h0 : 0 ≤ n) (h1 : n ≤ 100000) (h : litP n x = true) : IntKind.wrap .i64 (0 - x) = -x := by
  have := lit_range h0 h1 h
  rw [wrap64 (by omega) (by omega)]; omega
/-- What is left given one literal. -/
theorem given_mem {f : Fm} (hr : rightP f = true) {x : Int} (hx : litP f.n x = true) {c : List Int} : c ∈ (givenP f x).l ↔ ∃ d, d ∈ f.l ∧ x ∉ d ∧ c = d.filter fun y => decide (y ≠ -x) := by
  obtain ⟨h0, h1, _⟩ := right_inv hr
  have hw := wneg h0 h1 hx
  unfold givenP
  rw [if_pos ⟨hr, hx⟩, hw]
  simp only [List.mem_map, List.mem_filter]
  constructor
  · rintro ⟨d, ⟨hd, hh⟩, rfl⟩
    refine ⟨d, hd, fun hm => ?_, ?_⟩
    · rw [has_iff.2 hm] at hh; cases hh
    · unfold cutP
      congr 1
      funext y
      simp
  · rintro ⟨d, hd, hh, rfl⟩
    refine ⟨d, ⟨hd, ?_⟩, ?_⟩
    · cases h : hasP d x
      · rfl
      · exact absurd (has_iff.1 h) hh
    · unfold cutP
      congr 1
      funext y
      simp
theorem given_right {f : Fm} (hr : rightP f = true) (x : Int) : rightP (givenP f x) = true := by
  unfold givenP
  split
  · obtain ⟨h0, h1, h2⟩ := right_inv hr
    unfold rightP at hr ⊢
    simp only [Bool.and_eq_true, Bool.not_eq_true', decide_eq_false_iff_not] at hr ⊢
    refine ⟨hr.1, hr.2.1, ?_, ?_⟩
    · have := List.length_filter_le (fun c => !hasP c x) f.l
      have := hr.2.2.1
      rw [List.length_map]; omega
    · refine List.all_eq_true.2 fun c hc => List.all_eq_true.2 fun y hy => ?_
      obtain ⟨d, hd, rfl⟩ := List.mem_map.1 hc
      exact h2 d (List.mem_filter.1 hd).1 y (List.mem_filter.1 hy).1
  · exact hr
theorem gAll_right {f : Fm} (hr : rightP f = true) (l : List Int) : rightP (gAll f l) = true := by
  unfold gAll
  induction l generalizing f with
  | nil => exact hr
  | cons x l ih => exact ih (given_right hr x)
/-- What is left given literals of which none is the other's other. -/
theorem gAll_mem : ∀ (l : List Int) {f : Fm}, rightP f = true → allP f.n l = true → (∀ x y, x ∈ l → y ∈ l → x ≠ -y) → ∀ c, c ∈ (gAll f l).l ↔ ∃ d, d ∈ f.l ∧ (∀ x, x ∈ l → x ∉ d) ∧ c = d.filter fun y => decide (-y ∉ l)
  | [], f, hr, _, _, c => by
    have : gAll f [] = f := rfl
    rw [this]
    constructor
    · intro h
      exact ⟨c, h, by simp, (List.filter_eq_self.2 (by simp)).symm⟩
    · rintro ⟨d, hd, _, rfl⟩
      rw [List.filter_eq_self.2 (by simp)]
      exact hd
  | x :: l, f, hr, ha, hcl, c => by
    simp only [allP, List.all_cons, Bool.and_eq_true] at ha
    have hcl' : ∀ y z, y ∈ l → z ∈ l → y ≠ -z := fun y z hy hz => hcl y z (by simp [hy]) (by simp [hz])
    have ih := gAll_mem l (f := givenP f x) (given_right hr x) (by rw [given_n]; exact ha.2) hcl' c
    have : gAll f (x :: l) = gAll (givenP f x) l := rfl
    rw [this, ih]
    have hff : ∀ d : List Int, (d.filter fun y => decide (y ≠ -x)).filter (fun y => decide (-y ∉ l)) = d.filter fun y => decide (-y ∉ x :: l) := by
      intro d
      rw [List.filter_filter]
      congr 1
      funext y
      simp only [List.mem_cons, not_or, ne_eq, Bool.decide_and]
      rw [Bool.and_comm]
      congr 1
      rw [decide_eq_decide]
      omega
    constructor
    · rintro ⟨d, hd, hld, rfl⟩
      obtain ⟨d', hd', hx', rfl⟩ := (given_mem hr ha.1).1 hd
      refine ⟨d', hd', fun y hy => ?_, hff d'⟩
      rcases List.mem_cons.1 hy with rfl | hy
      · exact hx'
      · intro hm
        apply hld y hy
        refine List.mem_filter.2 ⟨hm, ?_⟩
        rw [decide_eq_true_eq]
        intro he
        exact hcl y x (by simp [hy]) (by simp) he
    · rintro ⟨d, hd, hld, rfl⟩
      exact ⟨_, (given_mem hr ha.1).2 ⟨d, hd, hld x (by simp), rfl⟩, fun y hy hm => hld y (by simp [hy]) (List.mem_filter.1 hm).1, (hff d).symm⟩
theorem clash_iff {n : Int} (h0 : 0 ≤ n) (h1 : n ≤ 100000) {l : List Int} (ha : allP n l = true) : clashP l = false ↔ ∀ x y, x ∈ l → y ∈ l → x ≠ -y := by
  have ha : ∀ x, x ∈ l → litP n x = true := List.all_eq_true.1 ha
  unfold clashP
  rw [List.any_eq_false]
  constructor
  · intro h x y hx hy he
    apply h y hy
    rw [wneg h0 h1 (ha y hy), ← he]
    exact has_iff.2 hx
  · intro h x hx hh
    rw [wneg h0 h1 (ha x hx)] at hh
    exact h (-x) x (has_iff.1 hh) hx rfl
theorem ltI_trans {x y z : Int} (h : ltI x y = true) (h2 : ltI y z = true) : ltI x z = true := by
  refine ltI_total (fun e => ?_) (leI_trans (ltI_asym h) (ltI_asym h2))
  subst e
  rw [ltI_asym h] at h2
  cases h2
theorem mem_insD {x z : Int} {l : List Int} : z ∈ insD x l ↔ z = x ∨ z ∈ l := by
  have h := tw_dw (fun y => ltI y x) l
  unfold insD
  split
  · simp [or_comm]
  · rename_i y r hd
    rw [hd] at h
    split
    · rename_i e
      subst e
      constructor
      · exact .inr
      · rintro (rfl | h2)
        · rw [h]; simp
        · exact h2
    · conv => rhs; rw [h]
      simp only [List.mem_append, List.mem_cons]
      constructor
      · rintro (a | a | a | a) <;> simp [a]
      · rintro (a | a | a | a) <;> simp [a]
theorem insD_strict {x : Int} {l : List Int} (hl : l.Pairwise fun a b => ltI a b = true) : (insD x l).Pairwise fun a b => ltI a b = true := by
  have h := tw_dw (fun y => ltI y x) l
  have ht : ∀ y, y ∈ l.takeWhile (fun y => ltI y x) → ltI y x = true := fun y hy => tw_all (fun y => ltI y x) hy
  unfold insD
  split
  · rename_i hd
    rw [hd, List.append_nil] at h
    rw [← h] at ht
    exact List.pairwise_append.2 ⟨hl, List.pairwise_singleton _ _, fun a ha b hb => by simp only [List.mem_singleton] at hb; subst hb; exact ht a ha⟩
  · rename_i y r hd
    have hy : ltI y x = false := dw_head (fun y => ltI y x) hd
    rw [hd] at h
    split
    · exact hl
    · rename_i e
      rw [h] at hl
      obtain ⟨p1, p2, p3⟩ := List.pairwise_append.1 hl
      have hyr := List.pairwise_cons.1 p2
      refine List.pairwise_append.2 ⟨p1, List.pairwise_cons.2 ⟨fun b hb => ?_, p2⟩, fun a ha b hb => ?_⟩
      · rcases List.mem_cons.1 hb with rfl | hb
        · exact ltI_total (fun e' => e e'.symm) hy
        · exact ltI_trans (ltI_total (fun e' => e e'.symm) hy) (hyr.1 b hb)
      · rcases List.mem_cons.1 hb with rfl | hb
        · exact ht a ha
        · exact p3 a ha b hb
theorem fold_mem {c out : List Int} {z : Int} : z ∈ c.foldl (fun out x => insD x out) out ↔ z ∈ c ∨ z ∈ out := by
  induction c generalizing out with
  | nil => simp
  | cons x c ih =>
    rw [List.foldl_cons, ih, mem_insD, List.mem_cons]
    constructor
    · rintro (a | a | a) <;> simp [a]
    · rintro ((a | a) | a) <;> simp [a]
theorem mem_normR {c : List Int} {z : Int} : z ∈ normR c ↔ z ∈ c := by unfold normR; rw [fold_mem]; simp
theorem normR_strict (c : List Int) : (normR c).Pairwise fun a b => ltI a b = true := by
  unfold normR
  have : ∀ (c out : List Int), (out.Pairwise fun a b => ltI a b = true) → (c.foldl (fun out x => insD x out) out).Pairwise fun a b => ltI a b = true := by
    intro c
    induction c with
    | nil => exact fun _ h => h
    | cons x c ih => exact fun out h => ih _ (insD_strict h)
  exact this c [] List.Pairwise.nil
theorem strict_ext : ∀ {a b : List Int}, (a.Pairwise fun x y => ltI x y = true) → (b.Pairwise fun x y => ltI x y = true) → (∀ z, z ∈ a ↔ z ∈ b) → a = b
  | [], [], _, _, _ => rfl
  | [], y :: b, _, _, h => absurd ((h y).2 (by simp)) (by simp)
  | x :: a, [], _, _, h => absurd ((h x).1 (by simp)) (by simp)
  | x :: a, y :: b, ha, hb, h => by
    have ha' := List.pairwise_cons.1 ha
    have hb' := List.pairwise_cons.1 hb
    have hxy : x = y := by
      rcases List.mem_cons.1 ((h x).1 (by simp)) with e | e
      · exact e
      · rcases List.mem_cons.1 ((h y).2 (by simp)) with e2 | e2
        · exact e2.symm
        · have h1 := ltI_asym (ha'.1 y e2)
          rw [hb'.1 x e] at h1
          cases h1
    subst hxy
    congr 1
    refine strict_ext ha'.2 hb'.2 fun z => ⟨fun hz => ?_, fun hz => ?_⟩
    · rcases List.mem_cons.1 ((h z).1 (by simp [hz])) with e | e
      · subst e
        have := ha'.1 z hz
        rw [ltI_irrefl] at this
        cases this
      · exact e
    · rcases List.mem_cons.1 ((h z).2 (by simp [hz])) with e | e
      · subst e
        have := hb'.1 z hz
        rw [ltI_irrefl] at this
        cases this
      · exact e
theorem valR_mem0 {r : List (Int × Int)} {i : Nat} (h : valR r i ≠ 0) : ∃ p, p ∈ r ∧ p.1.natAbs = i := by
  induction r with
  | nil => exact absurd rfl h
  | cons p r ih =>
    simp only [valR, upd] at h
    split at h
    · rename_i e
      exact ⟨p, by simp, e.symm⟩
    · obtain ⟨q, hq, e⟩ := ih h
      exact ⟨q, by simp [hq], e⟩
/-- A literal that is found alone is none of those that are there, nor one's other. -/
theorem unit_new {f : Fm} (hr : rightP f = true) {d c : List Int} {x : Int} (ha : allP f.n d = true) (hc : clashP d = false) (hm : c ∈ (gAll f d).l) (hn : normR c = [x]) :
    x ∉ d ∧ -x ∉ d ∧ litP f.n x = true ∧ ∃ c0, c0 ∈ f.l ∧ (∀ y, y ∈ d → y ∉ c0) ∧ x ∈ c0 ∧ ∀ y, y ∈ c0 → y = x ∨ -y ∈ d := by
  obtain ⟨h0, h1, h2⟩ := right_inv hr
  obtain ⟨c0, hc0, hd, rfl⟩ := (gAll_mem d hr ha ((clash_iff h0 h1 ha).1 hc) c).1 hm
  have hx : x ∈ c0.filter fun y => decide (-y ∉ d) := mem_normR.1 (by rw [hn]; simp)
  have hx' := List.mem_filter.1 hx
  refine ⟨fun h => hd x h hx'.1, of_decide_eq_true hx'.2, h2 c0 hc0 x hx'.1, c0, hc0, hd, hx'.1, fun y hy => ?_⟩
  by_cases hyd : -y ∈ d
  · exact .inr hyd
  · have : y ∈ normR (c0.filter fun y => decide (-y ∉ d)) := mem_normR.2 (List.mem_filter.2 ⟨hy, decide_eq_true hyd⟩)
    rw [hn, List.mem_singleton] at this
    exact .inl this
theorem DCh.all {f : Fm} (hr : rightP f = true) {lits d : List Int} (hl : allP f.n lits = true) (h : DCh f lits d) : allP f.n d = true ∧ ∀ x, x ∈ lits → x ∈ d := by
  induction h with
  | start => exact ⟨hl, fun _ h => h⟩
  | step h hc hm hn ih =>
    obtain ⟨_, _, h3, _⟩ := unit_new hr ih.1 hc hm hn
    refine ⟨?_, fun x hx => by simp [ih.2 x hx]⟩
    unfold allP
    rw [List.all_append]
    simp only [List.all_cons, List.all_nil, Bool.and_true, Bool.and_eq_true]
    exact ⟨ih.1, h3⟩
theorem DCh.len {f : Fm} (hr : rightP f = true) {lits d : List Int} (hl : allP f.n lits = true) (h : DCh f lits d) : ∃ r : List (Int × Int), TrInv f.n.toNat r ∧ d.length = lits.length + r.length ∧ ∀ p, p ∈ r → p.1 ∈ d := by
  obtain ⟨h0, h1, _⟩ := right_inv hr
  induction h with
  | start => exact ⟨[], trivial, rfl, by simp⟩
  | @step d c x h hc hm hn ih =>
    obtain ⟨r, hr1, hr2, hr3⟩ := ih
    obtain ⟨e1, e2, e3, _⟩ := unit_new hr (h.all hr hl).1 hc hm hn
    have hx := lit_range h0 h1 e3
    refine ⟨(x, 0) :: r, ⟨hx.1, by simp only; omega, by simp only; omega, ?_, hr1⟩, by simp only [List.length_append, List.length_cons, List.length_nil]; omega, fun p hp => ?_⟩
    · simp only
      by_cases hv : valR r x.natAbs = 0
      · exact hv
      · obtain ⟨p, hp, he⟩ := valR_mem0 hv
        have := hr3 p hp
        rcases Int.natAbs_eq_natAbs_iff.1 he with h | h
        · rw [h] at this; exact absurd this e1
        · rw [h] at this; exact absurd this e2
    · rcases List.mem_cons.1 hp with rfl | hp
      · simp
      · simp [hr3 p hp]
theorem DCh.le {f : Fm} (hr : rightP f = true) {lits d : List Int} (hl : allP f.n lits = true) (h : DCh f lits d) : d.length ≤ lits.length + f.n.toNat := by
  obtain ⟨r, h1, h2, _⟩ := h.len hr hl
  have := trInv_length h1
  omega
end Go.Proofs.Ytchedkjlhjfadaa
