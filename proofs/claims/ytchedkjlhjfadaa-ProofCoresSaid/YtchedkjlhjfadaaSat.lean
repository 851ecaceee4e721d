/- Plain mathematics of a search for models of clauses: what a trail entails, what is left to be tried, and the order of models. No program in sight. Conditions: none. -/
namespace Go.Proofs.Ytchedkjlhjfadaa

def truthZ (val : Nat → Int) (x : Int) : Int := if x < 0 then - val (-x).toNat else val x.toNat

def lastZ (val : Nat → Int) : List Int → Int → Int × Bool
  | [], x => (x, decide (x ≠ 0))
  | y :: c, x => if truthZ val y = 1 then (0, true) else if truthZ val y = 0 then (if x ≠ 0 ∧ x ≠ y then (0, true) else lastZ val c y) else lastZ val c x

def lits3 (val : Nat → Int) : Prop := ∀ i, -1 ≤ val i ∧ val i ≤ 1
def upd (val : Nat → Int) (x : Int) : Nat → Int := fun i => if i = x.natAbs then (if x < 0 then -1 else 1) else val i
def zeroV (val : Nat → Int) (x : Int) : Nat → Int := fun i => if i = x.natAbs then 0 else val i

def backZ : List (Int × Int) → (Nat → Int) → Option ((Nat → Int) × List (Int × Int) × Int)
  | [], _ => none
  | (x, how) :: r, val => if how = 1 then some (zeroV val x, r, -x) else backZ r (zeroV val x)

/-- slices.Index over integers: the place of the first element that is v, or -1. -/
def indexZ : List Int → Int → Int
  | [], _ => -1
  | y :: l, v => if v = y then 0 else if indexZ l v < 0 then -1 else indexZ l v + 1
def openZ (val : Nat → Int) (n : Nat) : Int := 1 + indexZ ((List.range n).map fun i => val (i + 1)) 0
def modelL (val : Nat → Int) (n : Nat) : List Bool := (List.range n).map fun i => decide (0 < val (i + 1))

/-- The values that a trail (its last entry first) gives. -/
def valR : List (Int × Int) → Nat → Int
  | [] => fun _ => 0
  | p :: r => upd (valR r) p.1

/-- The literals are of n variables, each variable once. -/
def TrInv (n : Nat) : List (Int × Int) → Prop
  | [] => True
  | p :: r => p.1 ≠ 0 ∧ -(n : Int) ≤ p.1 ∧ p.1 ≤ n ∧ valR r p.1.natAbs = 0 ∧ TrInv n r

def RightC (n : Nat) (c : List Int) : Prop := ∀ x ∈ c, x ≠ 0 ∧ -(n : Int) ≤ x ∧ x ≤ n
def RightL (n : Nat) (ls : List (List Int)) : Prop := ∀ c ∈ ls, RightC n c

/-! ### models -/
def litT (m : List Bool) (x : Int) : Bool := (m[x.natAbs - 1]?.getD false) == decide (0 < x)
def clauseT (m : List Bool) (c : List Int) : Bool := c.any (litT m)
def fT (m : List Bool) (ls : List (List Int)) : Bool := ls.all (clauseT m)
def satR (m : List Bool) (r : List (Int × Int)) : Bool := r.all fun p => litT m p.1
def allM : Nat → List (List Bool)
  | 0 => [[]]
  | n + 1 => (allM n).map (false :: ·) ++ (allM n).map (true :: ·)
def Mods (n : Nat) (ls : List (List Int)) : List (List Bool) := (allM n).filter (fT · ls)
def ext (n : Nat) (ls : List (List Int)) (r : List (Int × Int)) : List (List Bool) := (Mods n ls).filter (satR · r)
def rest (n : Nat) (ls : List (List Int)) : List (Int × Int) → List (List Bool)
  | [] => []
  | p :: r => (if p.2 = 1 then ext n ls ((-p.1, 2) :: r) else []) ++ rest n ls r

theorem lits3_valR : ∀ r, lits3 (valR r)
  | [] => fun i => by simp [valR]
  | p :: r => fun i => by
    unfold valR upd
    split
    · split <;> omega
    · exact lits3_valR r i

theorem truthZ_val {val : Nat → Int} (x : Int) : truthZ val x = if x < 0 then - val x.natAbs else val x.natAbs := by
  unfold truthZ
  split
  · rw [show (-x).toNat = x.natAbs by omega]
  · rw [show x.toNat = x.natAbs by omega]

theorem truthZ_range {val : Nat → Int} (h : lits3 val) (x : Int) : truthZ val x = -1 ∨ truthZ val x = 0 ∨ truthZ val x = 1 := by
  have := h x.natAbs
  rw [truthZ_val]
  split <;> omega

theorem litT_same {m : List Bool} {x y : Int} (h : x.natAbs = y.natAbs) (hs : (0 < x) ↔ (0 < y)) : litT m x = litT m y := by
  unfold litT; rw [h]; simp [hs]
theorem litT_neg {m : List Bool} {x : Int} (h : x ≠ 0) : litT m (-x) = !litT m x := by
  unfold litT
  rw [Int.natAbs_neg]
  have : decide (0 < -x) = !decide (0 < x) := by
    by_cases hx : 0 < x
    · simp [hx]; omega
    · simp [hx]; omega
  rw [this]
  cases m[x.natAbs - 1]?.getD false <;> cases decide (0 < x) <;> rfl

/-- What a trail says holds in each model of it. -/
theorem satR_true {m : List Bool} : ∀ {r : List (Int × Int)}, satR m r = true → ∀ x : Int, x ≠ 0 → truthZ (valR r) x = 1 → litT m x = true
  | [], _, x, _, h => by
    rw [truthZ_val] at h
    simp [valR] at h
  | p :: r, hs, x, h0, h => by
    simp only [satR, List.all_cons, Bool.and_eq_true] at hs
    rw [truthZ_val] at h
    simp only [valR, upd] at h
    by_cases e : x.natAbs = p.1.natAbs
    · rw [if_pos e] at h
      rw [litT_same e]
      · exact hs.1
      · split at h <;> split at h <;> omega
    · rw [if_neg e] at h
      exact satR_true (r := r) hs.2 x h0 (by rw [truthZ_val]; exact h)

theorem satR_false {m : List Bool} {r : List (Int × Int)} (hs : satR m r = true) (x : Int) (h0 : x ≠ 0) (h : truthZ (valR r) x = -1) : litT m x = false := by
  have : truthZ (valR r) (-x) = 1 := by
    rw [truthZ_val] at h ⊢
    rw [Int.natAbs_neg]
    split at h <;> split <;> omega
  have := satR_true hs (-x) (by omega) this
  rw [litT_neg h0] at this
  simpa using this

/-! ### last -/
/-- What 'last' says: with x (unset, or none) met so far. -/
theorem lastZ_spec {val : Nat → Int} (h3 : lits3 val) : ∀ (c : List Int) (x : Int), (∀ y ∈ c, y ≠ 0) → (x ≠ 0 → truthZ val x = 0) →
    (lastZ val c x = (0, true) ∧ ((∃ y ∈ c, truthZ val y = 1) ∨ (∃ y ∈ c, truthZ val y = 0))) ∨
    (∃ z, lastZ val c x = (z, true) ∧ z ≠ 0 ∧ (z = x ∨ z ∈ c) ∧ truthZ val z = 0 ∧ ∀ y ∈ c, y = z ∨ truthZ val y = -1) ∨
    (lastZ val c x = (0, false) ∧ x = 0 ∧ ∀ y ∈ c, truthZ val y = -1)
  | [], x, _, hx => by
    by_cases h : x = 0
    · subst h; exact .inr (.inr ⟨by simp [lastZ], rfl, by simp⟩)
    · exact .inr (.inl ⟨x, by simp [lastZ, h], h, .inl rfl, hx h, by simp⟩)
  | y :: c, x, hc, hx => by
    have hy := hc y (by simp)
    unfold lastZ
    rcases truthZ_range h3 y with t | t | t
    · rw [if_neg (by omega), if_neg (by omega)]
      rcases lastZ_spec h3 c x (fun z hz => hc z (by simp [hz])) hx with ⟨h1, h2⟩ | ⟨z, h1, h2, h4, h5, h6⟩ | ⟨h1, h2, h4⟩
      · refine .inl ⟨h1, ?_⟩
        rcases h2 with ⟨u, hu, hu'⟩ | ⟨u, hu, hu'⟩
        · exact .inl ⟨u, by simp [hu], hu'⟩
        · exact .inr ⟨u, by simp [hu], hu'⟩
      · refine .inr (.inl ⟨z, h1, h2, ?_, h5, ?_⟩)
        · rcases h4 with h4 | h4
          · exact .inl h4
          · exact .inr (by simp [h4])
        · intro u hu
          rcases List.mem_cons.1 hu with rfl | hu
          · exact .inr t
          · exact h6 u hu
      · refine .inr (.inr ⟨h1, h2, ?_⟩)
        intro u hu
        rcases List.mem_cons.1 hu with rfl | hu
        · exact t
        · exact h4 u hu
    · rw [if_neg (by omega), if_pos t]
      by_cases hxy : x ≠ 0 ∧ x ≠ y
      · rw [if_pos hxy]
        exact .inl ⟨rfl, .inr ⟨y, by simp, t⟩⟩
      · rw [if_neg hxy]
        rcases lastZ_spec h3 c y (fun z hz => hc z (by simp [hz])) (fun _ => t) with ⟨h1, h2⟩ | ⟨z, h1, h2, h4, h5, h6⟩ | ⟨h1, h2, h4⟩
        · refine .inl ⟨h1, ?_⟩
          rcases h2 with ⟨u, hu, hu'⟩ | ⟨u, hu, hu'⟩
          · exact .inl ⟨u, by simp [hu], hu'⟩
          · exact .inr ⟨u, by simp [hu], hu'⟩
        · by_cases hzy : z = y
          · subst hzy
            refine .inr (.inl ⟨z, h1, h2, .inr (by simp), h5, ?_⟩)
            intro u hu
            rcases List.mem_cons.1 hu with rfl | hu
            · exact .inl rfl
            · exact h6 u hu
          · -- z is another one than y: 'last' would have said so
            exfalso
            have := lastZ_first (val := val) c y z hy h1
            rcases this with h | h
            · exact h2 h
            · exact hzy h
        · omega
    · rw [if_pos t]
      exact .inl ⟨rfl, .inl ⟨y, by simp, t⟩⟩
where
  lastZ_first {val : Nat → Int} : ∀ (c : List Int) (x z : Int), x ≠ 0 → lastZ val c x = (z, true) → z = 0 ∨ z = x
    | [], x, z, h0, h => by simp [lastZ] at h; exact .inr h.1.symm
    | y :: c, x, z, h0, h => by
      unfold lastZ at h
      split at h
      · simp at h; exact .inl h.symm
      · split at h
        · split at h
          · simp at h; exact .inl h.symm
          · rename_i hh
            have : x = y := by
              by_cases e : x = y
              · exact e
              · exact absurd ⟨h0, e⟩ hh
            subst this
            exact lastZ_first c x z h0 h
        · exact lastZ_first c x z h0 h


/-! ### what a clause forces -/
theorem clause_some {m : List Bool} {ls : List (List Int)} (hf : fT m ls = true) {c : List Int} (hc : c ∈ ls) : ∃ y ∈ c, litT m y = true := by
  have := List.all_eq_true.1 hf c hc
  simpa [clauseT] using this

theorem forced_lit {n : Nat} {ls : List (List Int)} (hr : RightL n ls) {r : List (Int × Int)} {c : List Int} (hc : c ∈ ls) {x : Int} (hl : lastZ (valR r) c 0 = (x, true)) (h0 : x ≠ 0) :
    x ∈ c ∧ truthZ (valR r) x = 0 ∧ ∀ m, satR m r = true → fT m ls = true → litT m x = true := by
  have hcc := fun y hy => (hr c hc y hy).1
  rcases lastZ_spec (lits3_valR r) c 0 hcc (fun h => absurd rfl h) with ⟨h1, _⟩ | ⟨z, h1, h2, h3, h4, h5⟩ | ⟨h1, _, _⟩
  · rw [h1] at hl; simp at hl; exact absurd hl.symm h0
  · rw [h1] at hl; simp at hl
    subst hl
    refine ⟨h3.resolve_left h2, h4, ?_⟩
    intro m hs hf
    obtain ⟨y, hy, ht⟩ := clause_some hf hc
    rcases h5 y hy with rfl | h
    · exact ht
    · rw [satR_false hs y (hcc y hy) h] at ht; cases ht
  · rw [h1] at hl; simp at hl

theorem ext_forced {n : Nat} {ls : List (List Int)} (hr : RightL n ls) {r : List (Int × Int)} {c : List Int} (hc : c ∈ ls) {x : Int} (hl : lastZ (valR r) c 0 = (x, true)) (h0 : x ≠ 0) :
    ext n ls ((x, 0) :: r) = ext n ls r := by
  obtain ⟨_, _, h⟩ := forced_lit hr hc hl h0
  unfold ext
  refine List.filter_congr ?_
  intro m hm
  have hf : fT m ls = true := (List.mem_filter.1 hm).2
  by_cases hs : satR m r = true
  · rw [hs]; simp only [satR, List.all_cons, Bool.and_eq_true]; exact ⟨h m hs hf, hs⟩
  · have hs' : satR m r = false := by simpa using hs
    rw [hs']; simp only [satR] at hs' ⊢; simp [hs']

theorem ext_conflict {n : Nat} {ls : List (List Int)} (hr : RightL n ls) {r : List (Int × Int)} {c : List Int} (hc : c ∈ ls) {x : Int} (hl : lastZ (valR r) c 0 = (x, false)) : ext n ls r = [] := by
  have hcc := fun y hy => (hr c hc y hy).1
  unfold ext
  refine List.filter_eq_nil_iff.2 ?_
  intro m hm hs
  have hf : fT m ls = true := (List.mem_filter.1 hm).2
  obtain ⟨y, hy, ht⟩ := clause_some hf hc
  rcases lastZ_spec (lits3_valR r) c 0 hcc (fun h => absurd rfl h) with ⟨h1, _⟩ | ⟨z, h1, _⟩ | ⟨_, _, h5⟩
  · rw [h1] at hl; simp at hl
  · rw [h1] at hl; simp at hl
  · rw [satR_false hs y (hcc y hy) (h5 y hy)] at ht; cases ht

/-! ### all models, in order -/
theorem mem_allM {m : List Bool} : ∀ {n : Nat}, m ∈ allM n ↔ m.length = n := by
  intro n
  induction n generalizing m with
  | zero => simp [allM]
  | succ n ih =>
    simp only [allM, List.mem_append, List.mem_map]
    constructor
    · rintro (⟨a, ha, rfl⟩ | ⟨a, ha, rfl⟩) <;> simp [ih.1 ha]
    · intro h
      cases m with
      | nil => simp at h
      | cons b m =>
        have : m ∈ allM n := ih.2 (by simpa using h)
        cases b
        · exact .inl ⟨m, this, rfl⟩
        · exact .inr ⟨m, this, rfl⟩

theorem nodup_allM : ∀ n, (allM n).Nodup
  | 0 => by simp [allM]
  | n + 1 => by
    have ih := nodup_allM n
    simp only [allM]
    rw [List.nodup_append]
    refine ⟨?_, ?_, ?_⟩
    · exact List.Pairwise.map _ (fun a b h => by simpa using h) ih
    · exact List.Pairwise.map _ (fun a b h => by simpa using h) ih
    · intro a ha b hb
      obtain ⟨a', _, rfl⟩ := List.mem_map.1 ha
      obtain ⟨b', _, rfl⟩ := List.mem_map.1 hb
      simp

theorem filter_one {α : Type} {p : α → Bool} {a : α} : ∀ {l : List α}, l.Nodup → a ∈ l → p a = true → (∀ b ∈ l, p b = true → b = a) → l.filter p = [a]
  | [], _, h, _, _ => by simp at h
  | b :: l, hn, h, hp, hu => by
    rw [List.nodup_cons] at hn
    by_cases hb : p b = true
    · have := hu b (by simp) hb
      subst this
      rw [List.filter_cons, if_pos hb]
      congr 1
      refine List.filter_eq_nil_iff.2 ?_
      intro c hc hpc
      have := hu c (by simp [hc]) hpc
      subst this
      exact hn.1 hc
    · rw [List.filter_cons, if_neg hb]
      have hm : a ∈ l := by
        rcases List.mem_cons.1 h with rfl | h
        · exact absurd hp hb
        · exact h
      exact filter_one hn.2 hm hp (fun c hc => hu c (by simp [hc]))

theorem valR_mem {n : Nat} : ∀ {r : List (Int × Int)}, TrInv n r → ∀ p ∈ r, valR r p.1.natAbs = if p.1 < 0 then -1 else 1
  | [], _, p, hp => by simp at hp
  | q :: r, h, p, hp => by
    obtain ⟨_, _, _, h4, h5⟩ := h
    unfold valR upd
    rcases List.mem_cons.1 hp with rfl | hp
    · rw [if_pos rfl]
    · have := valR_mem h5 p hp
      rw [if_neg]
      · exact this
      · intro e; rw [e, h4] at this; split at this <;> omega

theorem modelL_length (val : Nat → Int) (n : Nat) : (modelL val n).length = n := by simp [modelL]
theorem modelL_get (val : Nat → Int) (n i : Nat) (h : i < n) : (modelL val n)[i]?.getD false = decide (0 < val (i + 1)) := by
  simp [modelL, h]

theorem satR_model {n : Nat} {r : List (Int × Int)} (h : TrInv n r) (hin : ∀ p ∈ r, p.1 ≠ 0 ∧ p.1.natAbs ≤ n) : satR (modelL (valR r) n) r = true := by
  refine List.all_eq_true.2 ?_
  intro p hp
  have h1 := valR_mem h p hp
  obtain ⟨h2, h3⟩ := hin p hp
  unfold litT
  rw [modelL_get _ _ _ (by omega), show p.1.natAbs - 1 + 1 = p.1.natAbs by omega, h1]
  split
  · rw [show decide (0 < p.1) = false by simp; omega]; rfl
  · rw [show decide (0 < p.1) = true by simp; omega]; rfl

theorem trInv_in {n : Nat} : ∀ {r : List (Int × Int)}, TrInv n r → ∀ p ∈ r, p.1 ≠ 0 ∧ p.1.natAbs ≤ n
  | [], _, p, hp => by simp at hp
  | q :: r, h, p, hp => by
    obtain ⟨h1, h2, h3, _, h5⟩ := h
    rcases List.mem_cons.1 hp with rfl | hp
    · exact ⟨h1, by omega⟩
    · exact trInv_in h5 p hp

theorem model_unique {n : Nat} {r : List (Int × Int)} (hall : ∀ i, i < n → valR r (i + 1) ≠ 0) {m : List Bool} (hm : m.length = n) (hs : satR m r = true) : m = modelL (valR r) n := by
  refine List.ext_getElem (by rw [hm, modelL_length]) ?_
  intro i h1 h2
  have hi : i < n := by omega
  have hg := modelL_get (valR r) n i hi
  rw [show (modelL (valR r) n)[i] = decide (0 < valR r (i + 1)) by simpa [modelL_length, hi] using hg]
  have h3 := lits3_valR r (i + 1)
  have h4 := hall i hi
  by_cases hp : 0 < valR r (i + 1)
  · have := satR_true hs ((i + 1 : Nat) : Int) (by omega) (by rw [truthZ_val, if_neg (by omega), Int.natAbs_natCast]; omega)
    unfold litT at this
    rw [Int.natAbs_natCast] at this
    simp [hm, hi] at this
    rw [this]; simp [hp]
  · have := satR_true hs (-((i + 1 : Nat) : Int)) (by omega) (by rw [truthZ_val, if_pos (by omega), Int.natAbs_neg, Int.natAbs_natCast]; omega)
    unfold litT at this
    rw [Int.natAbs_neg, Int.natAbs_natCast] at this
    simp [hm, hi] at this
    rw [this]; simp [hp]; omega

theorem ext_full {n : Nat} {ls : List (List Int)} (hr : RightL n ls) {r : List (Int × Int)} (ht : TrInv n r) (hall : ∀ i, i < n → valR r (i + 1) ≠ 0)
    (hc : ∀ c ∈ ls, lastZ (valR r) c 0 = (0, true)) : ext n ls r = [modelL (valR r) n] := by
  have hs := satR_model ht (trInv_in ht)
  have hf : fT (modelL (valR r) n) ls = true := by
    refine List.all_eq_true.2 ?_
    intro c hcl
    have hcc := fun y hy => (hr c hcl y hy).1
    rcases lastZ_spec (lits3_valR r) c 0 hcc (fun h => absurd rfl h) with ⟨_, h2⟩ | ⟨z, h1, h2, _⟩ | ⟨h1, _, _⟩
    · rcases h2 with ⟨y, hy, h2⟩ | ⟨y, hy, h2⟩
      · exact List.any_eq_true.2 ⟨y, hy, satR_true hs y (hcc y hy) h2⟩
      · exfalso
        obtain ⟨g1, g2, g3⟩ := hr c hcl y hy
        have := hall (y.natAbs - 1) (by omega)
        rw [show y.natAbs - 1 + 1 = y.natAbs by omega] at this
        rw [truthZ_val] at h2
        split at h2 <;> omega
    · rw [hc c hcl] at h1; simp at h1; exact absurd h1.symm h2
    · rw [hc c hcl] at h1; simp at h1
  unfold ext Mods
  rw [List.filter_filter]
  refine filter_one (nodup_allM n) (mem_allM.2 (modelL_length _ _)) (by rw [hs, hf]; rfl) ?_
  intro m hm hp
  simp only [Bool.and_eq_true] at hp
  exact model_unique hall (mem_allM.1 hm) hp.1

/-! ### choosing -/
theorem allM_split (P : List Bool → Bool) : ∀ (n k : Nat), k < n → (∀ m ∈ allM n, ∀ m' ∈ allM n, P m = true → P m' = true → m.take k = m'.take k) →
    (allM n).filter P = (allM n).filter (fun m => !(m[k]?.getD false) && P m) ++ (allM n).filter (fun m => (m[k]?.getD false) && P m)
  | 0, k, h, _ => by omega
  | n + 1, 0, _, _ => by
    simp only [allM, List.filter_append, List.filter_map]
    have e1 : ((fun m : List Bool => !(m[0]?.getD false) && P m) ∘ fun x => false :: x) = P ∘ (fun x => false :: x) := by funext x; simp
    have e2 : ((fun m : List Bool => !(m[0]?.getD false) && P m) ∘ fun x => true :: x) = fun _ => false := by funext x; simp
    have e3 : ((fun m : List Bool => (m[0]?.getD false) && P m) ∘ fun x => false :: x) = fun _ => false := by funext x; simp
    have e4 : ((fun m : List Bool => (m[0]?.getD false) && P m) ∘ fun x => true :: x) = P ∘ (fun x => true :: x) := by funext x; simp
    have z : ∀ l : List (List Bool), l.filter (fun _ => false) = [] := fun l => List.filter_eq_nil_iff.2 fun _ _ h => by cases h
    rw [e1, e2, e3, e4, z]
    simp
  | n + 1, k + 1, hk, hP => by
    have hagree : ∀ b, ∀ m ∈ allM n, ∀ m' ∈ allM n, P (b :: m) = true → P (b :: m') = true → m.take k = m'.take k := by
      intro b m hm m' hm' h h'
      have := hP (b :: m) (mem_allM.2 (by simp [mem_allM.1 hm])) (b :: m') (mem_allM.2 (by simp [mem_allM.1 hm'])) h h'
      simpa using this
    have i1 := allM_split (fun m => P (false :: m)) n k (by omega) (hagree false)
    have i2 := allM_split (fun m => P (true :: m)) n k (by omega) (hagree true)
    simp only [allM, List.filter_append, List.filter_map]
    have f1 : (P ∘ fun x => false :: x) = fun m => P (false :: m) := rfl
    have f2 : (P ∘ fun x => true :: x) = fun m => P (true :: m) := rfl
    have g1 : ((fun m : List Bool => !(m[k+1]?.getD false) && P m) ∘ fun x => false :: x) = fun m => !(m[k]?.getD false) && P (false :: m) := by funext x; simp
    have g2 : ((fun m : List Bool => !(m[k+1]?.getD false) && P m) ∘ fun x => true :: x) = fun m => !(m[k]?.getD false) && P (true :: m) := by funext x; simp
    have g3 : ((fun m : List Bool => (m[k+1]?.getD false) && P m) ∘ fun x => false :: x) = fun m => (m[k]?.getD false) && P (false :: m) := by funext x; simp
    have g4 : ((fun m : List Bool => (m[k+1]?.getD false) && P m) ∘ fun x => true :: x) = fun m => (m[k]?.getD false) && P (true :: m) := by funext x; simp
    rw [f1, f2, g1, g2, g3, g4, i1, i2]
    -- one of the two halves is empty
    by_cases hex : ∃ m ∈ allM n, P (false :: m) = true
    · obtain ⟨m0, hm0, hp0⟩ := hex
      have hnone : ∀ m ∈ allM n, P (true :: m) = false := by
        intro m hm
        cases hpm : P (true :: m) with
        | false => rfl
        | true =>
          have := hP (false :: m0) (mem_allM.2 (by simp [mem_allM.1 hm0])) (true :: m) (mem_allM.2 (by simp [mem_allM.1 hm])) hp0 hpm
          simp at this
      have z1 : (allM n).filter (fun m => !(m[k]?.getD false) && P (true :: m)) = [] := List.filter_eq_nil_iff.2 fun m hm h => by simp [hnone m hm] at h
      have z2 : (allM n).filter (fun m => (m[k]?.getD false) && P (true :: m)) = [] := List.filter_eq_nil_iff.2 fun m hm h => by simp [hnone m hm] at h
      rw [z1, z2]; simp
    · have hnone : ∀ m ∈ allM n, P (false :: m) = false := by
        intro m hm
        cases hpm : P (false :: m) with
        | false => rfl
        | true => exact absurd ⟨m, hm, hpm⟩ hex
      have z1 : (allM n).filter (fun m => !(m[k]?.getD false) && P (false :: m)) = [] := List.filter_eq_nil_iff.2 fun m hm h => by simp [hnone m hm] at h
      have z2 : (allM n).filter (fun m => (m[k]?.getD false) && P (false :: m)) = [] := List.filter_eq_nil_iff.2 fun m hm h => by simp [hnone m hm] at h
      rw [z1, z2]; simp

theorem take_agree {n k : Nat} {r : List (Int × Int)} (hset : ∀ i, i < k → valR r (i + 1) ≠ 0) {m : List Bool} (hm : m.length = n) (hk : k ≤ n) (hs : satR m r = true) : m.take k = modelL (valR r) k := by
  refine List.ext_getElem (by simp [modelL_length, hm, hk]) ?_
  intro i h1 h2
  have hi : i < k := by simp [modelL_length] at h2; exact h2
  have hg := modelL_get (valR r) k i hi
  rw [show (modelL (valR r) k)[i] = decide (0 < valR r (i + 1)) by simpa [modelL_length, hi] using hg]
  have h3 := lits3_valR r (i + 1)
  have h4 := hset i hi
  rw [List.getElem_take]
  by_cases hp : 0 < valR r (i + 1)
  · have := satR_true hs ((i + 1 : Nat) : Int) (by omega) (by rw [truthZ_val, if_neg (by omega), Int.natAbs_natCast]; omega)
    unfold litT at this
    rw [Int.natAbs_natCast] at this
    simp [show i < m.length by omega] at this
    rw [this]; simp [hp]
  · have := satR_true hs (-((i + 1 : Nat) : Int)) (by omega) (by rw [truthZ_val, if_pos (by omega), Int.natAbs_neg, Int.natAbs_natCast]; omega)
    unfold litT at this
    rw [Int.natAbs_neg, Int.natAbs_natCast] at this
    simp [show i < m.length by omega] at this
    rw [this]; simp [hp]; omega

theorem ext_choose {n : Nat} {ls : List (List Int)} {r : List (Int × Int)} {v : Nat} (hv : 0 < v) (hvn : v ≤ n) (hset : ∀ i, i + 1 < v → valR r (i + 1) ≠ 0) :
    ext n ls r = ext n ls ((-(v : Int), 1) :: r) ++ ext n ls ((v, 2) :: r) := by
  unfold ext Mods
  rw [List.filter_filter, List.filter_filter, List.filter_filter]
  rw [allM_split _ n (v - 1) (by omega)]
  · congr 1
    · refine List.filter_congr ?_
      intro m _
      simp only [satR, List.all_cons, litT, Int.natAbs_neg, Int.natAbs_natCast]
      rw [show decide (0 < -(v : Int)) = false by simp]
      cases m[v - 1]?.getD false <;> simp
    · refine List.filter_congr ?_
      intro m _
      simp only [satR, List.all_cons, litT, Int.natAbs_natCast]
      rw [show decide (0 < (v : Int)) = true by simp; omega]
      cases m[v - 1]?.getD false <;> simp
  · intro m hm m' hm' h h'
    simp only [Bool.and_eq_true] at h h'
    rw [take_agree (fun i hi => hset i (by omega)) (mem_allM.1 hm) (by omega) h.1, take_agree (fun i hi => hset i (by omega)) (mem_allM.1 hm') (by omega) h'.1]

theorem indexZ_lo (l : List Int) (v : Int) : -1 ≤ indexZ l v := by
  induction l with
  | nil => simp [indexZ]
  | cons y l ih => unfold indexZ; split <;> (try split) <;> omega
theorem indexZ_hi (l : List Int) (v : Int) : indexZ l v < l.length := by
  induction l with
  | nil => simp [indexZ]
  | cons y l ih => unfold indexZ; simp only [List.length_cons]; split <;> (try split) <;> omega
theorem indexZ_before (v : Int) : ∀ (l : List Int) (j : Nat), j < l.length → (indexZ l v < 0 ∨ (j : Int) < indexZ l v) → l[j]?.getD 0 ≠ v
  | [], j, h, _ => by simp at h
  | y :: l, j, h, hi => by
    unfold indexZ at hi
    by_cases e : v = y
    · rw [if_pos e] at hi; omega
    · rw [if_neg e] at hi
      cases j with
      | zero => simp; exact fun h => e h.symm
      | succ j =>
        have := indexZ_before v l j (by simpa using h) (by split at hi <;> omega)
        simpa using this
theorem indexZ_at (v : Int) : ∀ (l : List Int) (j : Nat), indexZ l v = (j : Int) → j < l.length ∧ l[j]?.getD 0 = v
  | [], j, h => by simp [indexZ] at h
  | y :: l, j, h => by
    unfold indexZ at h
    by_cases e : v = y
    · rw [if_pos e] at h
      have : j = 0 := by omega
      subst this; simp [e]
    · rw [if_neg e] at h
      have := indexZ_lo l v
      split at h
      · omega
      · obtain ⟨i, rfl⟩ : ∃ i, j = i + 1 := ⟨j - 1, by omega⟩
        obtain ⟨h1, h2⟩ := indexZ_at v l i (by omega)
        exact ⟨by simpa using h1, by simpa using h2⟩

theorem openZ_lo (val : Nat → Int) (n : Nat) : 0 ≤ openZ val n := by have := indexZ_lo ((List.range n).map fun i => val (i + 1)) 0; unfold openZ; omega
theorem openZ_hi (val : Nat → Int) (n : Nat) : openZ val n ≤ n := by have := indexZ_hi ((List.range n).map fun i => val (i + 1)) 0; simp at this; unfold openZ; omega
theorem openZ_none {val : Nat → Int} {n : Nat} (h : openZ val n = 0) : ∀ i, i < n → val (i + 1) ≠ 0 := by
  intro i hi
  have := indexZ_before 0 ((List.range n).map fun i => val (i + 1)) i (by simpa using hi) (.inl (by unfold openZ at h; omega))
  simpa [hi] using this
theorem openZ_some {val : Nat → Int} {n v : Nat} (h : openZ val n = (v : Int)) (h0 : 0 < v) : v ≤ n ∧ val v = 0 ∧ ∀ i, i + 1 < v → val (i + 1) ≠ 0 := by
  have hi : indexZ ((List.range n).map fun i => val (i + 1)) 0 = ((v - 1 : Nat) : Int) := by unfold openZ at h; omega
  obtain ⟨h1, h2⟩ := indexZ_at 0 _ _ hi
  simp at h1
  rw [List.getElem?_map, List.getElem?_range h1] at h2
  simp at h2
  rw [show v - 1 + 1 = v by omega] at h2
  refine ⟨by omega, h2, ?_⟩
  intro i hiv
  have := indexZ_before 0 ((List.range n).map fun i => val (i + 1)) i (by simp; omega) (.inr (by rw [hi]; omega))
  simpa [show i < n by omega] using this

/-! ### going back; what is left to do -/
theorem zeroV_valR {p : Int × Int} {r : List (Int × Int)} (h : valR r p.1.natAbs = 0) : zeroV (valR (p :: r)) p.1 = valR r := by
  funext i
  show (if i = p.1.natAbs then 0 else upd (valR r) p.1 i) = valR r i
  unfold upd
  split
  · rename_i e; rw [e, h]
  · rfl

def cost (k : Nat) : Nat := 2 ^ (k + 1) - 1
def pend (n : Nat) : List (Int × Int) → Nat
  | [] => 0
  | p :: r => (if p.2 = 1 then cost (n - r.length - 1) else 0) + pend n r
/-- How many steps are left at most. -/
def mu (n : Nat) (r : List (Int × Int)) : Nat := cost (n - r.length) + pend n r

theorem cost_pos (k : Nat) : 1 ≤ cost k := by unfold cost; have := Nat.pow_lt_pow_right (a := 2) (by omega) (show 0 < k + 1 by omega); omega
theorem cost_succ (k : Nat) : cost (k + 1) = 2 * cost k + 1 := by unfold cost; have := Nat.pow_succ 2 (k + 1); have := Nat.pow_lt_pow_right (a := 2) (by omega) (show 0 < k + 1 by omega); omega

theorem mu_put {n : Nat} {r : List (Int × Int)} (hl : r.length < n) (x how : Int) : mu n ((x, how) :: r) < mu n r := by
  unfold mu
  simp only [List.length_cons, pend]
  have e : n - r.length = (n - r.length - 1) + 1 := by omega
  have := cost_succ (n - r.length - 1)
  rw [← e] at this
  rw [show n - (r.length + 1) = n - r.length - 1 by omega]
  split <;> omega

theorem vars_le {n : Nat} : ∀ {r : List (Int × Int)}, TrInv n r → (r.map fun p => p.1.natAbs).Nodup
  | [], _ => by simp
  | p :: r, h => by
    obtain ⟨_, _, _, h4, h5⟩ := h
    simp only [List.map_cons, List.nodup_cons]
    refine ⟨?_, vars_le h5⟩
    intro hm
    obtain ⟨q, hq, e⟩ := List.mem_map.1 hm
    have := valR_mem h5 q hq
    rw [e, h4] at this
    split at this <;> omega

theorem nodup_le : ∀ {l l' : List Nat}, l.Nodup → (∀ i ∈ l, i ∈ l') → l.length ≤ l'.length
  | [], _, _, _ => by simp
  | a :: l, l', h, hs => by
    rw [List.nodup_cons] at h
    have ha := hs a (by simp)
    have := nodup_le (l := l) (l' := l'.erase a) h.2 (fun i hi => (List.mem_erase_of_ne (fun e => h.1 (by rw [← e]; exact hi))).2 (hs i (by simp [hi])))
    rw [List.length_erase_of_mem ha] at this
    have : 0 < l'.length := List.length_pos_of_mem ha
    simp only [List.length_cons]
    omega

theorem trInv_length {n : Nat} {r : List (Int × Int)} (h : TrInv n r) : r.length ≤ n := by
  have h1 := vars_le h
  have h2 : ∀ i ∈ (r.map fun p => p.1.natAbs), i ∈ (List.range n).map (· + 1) := by
    intro i hi
    obtain ⟨p, hp, rfl⟩ := List.mem_map.1 hi
    obtain ⟨g1, g2⟩ := trInv_in h p hp
    exact List.mem_map.2 ⟨p.1.natAbs - 1, by simp; omega, by omega⟩
  have := nodup_le h1 h2
  simpa using this

theorem trInv_room {n : Nat} {r : List (Int × Int)} (h : TrInv n r) {x : Int} (h0 : x ≠ 0) (h1 : -(n : Int) ≤ x) (h2 : x ≤ n) (hx : truthZ (valR r) x = 0) (how : Int) : TrInv n ((x, how) :: r) ∧ r.length < n := by
  have hv : valR r x.natAbs = 0 := by rw [truthZ_val] at hx; split at hx <;> omega
  have : TrInv n ((x, how) :: r) := ⟨h0, h1, h2, hv, h⟩
  exact ⟨this, by have := trInv_length this; simp at this; omega⟩

theorem back_spec {n : Nat} (ls : List (List Int)) : ∀ {r : List (Int × Int)}, TrInv n r →
    (backZ r (valR r) = none ∧ rest n ls r = []) ∨
    (∃ r' y, backZ r (valR r) = some (valR r', r', y) ∧ y ≠ 0 ∧ -(n : Int) ≤ y ∧ y ≤ n ∧ TrInv n ((y, 2) :: r') ∧ rest n ls r = ext n ls ((y, 2) :: r') ++ rest n ls r' ∧ mu n ((y, 2) :: r') ≤ pend n r)
  | [], _ => .inl ⟨rfl, rfl⟩
  | (x, how) :: r, h => by
    have hl := trInv_length h
    obtain ⟨h1, h2, h3, h4, h5⟩ := h
    dsimp only at h1 h2 h3 h4
    have hz := zeroV_valR (p := (x, how)) h4
    dsimp only at hz
    unfold backZ
    by_cases hh : how = 1
    · rw [if_pos hh, hz]
      refine .inr ⟨r, -x, rfl, by omega, by omega, by omega, ⟨by simpa using h1, by omega, by omega, by simpa using h4, h5⟩, ?_, ?_⟩
      · simp [rest, hh]
      · unfold mu
        simp only [List.length_cons, pend]
        simp at hl
        rw [if_neg (by omega), if_pos hh, show n - (r.length + 1) = n - r.length - 1 by omega]
        omega
    · rw [if_neg hh, hz]
      rcases back_spec ls h5 with ⟨g1, g2⟩ | ⟨r', y, g1, g2, g3, g4, g5, g6, g7⟩
      · exact .inl ⟨g1, by simp [rest, hh, g2]⟩
      · refine .inr ⟨r', y, g1, g2, g3, g4, g5, by simp [rest, hh, g6], ?_⟩
        simp only [pend, if_neg hh]
        omega
end Go.Proofs.Ytchedkjlhjfadaa
