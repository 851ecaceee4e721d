/- Texts of tokens are scanned to the same tokens; so is a text with blanks and a comment around it. Conditions: none. -/
import Derived.Test.YtlcbnlfbbjmpbaaT13
import Derived.Test.YtlcbnlfbbjmpbaaT14
namespace Go.Proofs.Ytlcbnlfbbjmpbaa
open Go Go.Ab
variable {ext : Sem'}
theorem spanL_eq {p : UInt8 → Bool} : ∀ {l : List UInt8} {n : Nat}, (∀ x, x ∈ l.take n → p x = true) → n ≤ l.length → (∀ c, l[n]? = some c → p c = false) → spanL p l = n
  | [], n, _, h, _ => by simp at h; subst h; rfl
  | a :: l, 0, _, _, h => by simp [spanL, h a rfl]
  | a :: l, n + 1, h1, h2, h3 => by
    simp only [spanL, h1 a (by simp), if_true]
    rw [spanL_eq (l := l) (n := n) (fun x hx => h1 x (by simp [hx])) (by simpa using h2) (fun c hc => h3 c (by simpa using hc))]
theorem spanL_stop {p : UInt8 → Bool} : ∀ {l : List UInt8} {c : UInt8}, l[spanL p l]? = some c → p c = false
  | [], _, h => by simp at h
  | a :: l, c, h => by
    unfold spanL at h
    split at h
    · rename_i ha; exact spanL_stop (l := l) (by simpa using h)
    · rename_i ha
      simp at h
      subst h
      simpa using ha
/-- Where a token may end. -/
def Ends (l2 l : List UInt8) (n : Nat) : Prop := l2[n]? = l[n]? ∨ l2[n]? = none ∨ l2[n]? = some 10 ∨ l2[n]? = some 32
theorem span_same {p : UInt8 → Bool} (hp10 : p 10 = false) (hp32 : p 32 = false) {l l2 : List UInt8} (ht : l2.take (spanL p l) = l.take (spanL p l)) (he : Ends l2 l (spanL p l)) : spanL p l2 = spanL p l := by
  have hle := spanL_le p l
  refine spanL_eq (fun x hx => ?_) ?_ (fun c hc => ?_)
  · rw [ht] at hx; exact spanL_all hx
  · have := congrArg List.length ht
    simp at this
    omega
  · rcases he with h | h | h | h
    · rw [h] at hc; exact spanL_stop hc
    · rw [h] at hc; cases hc
    · rw [h] at hc; cases hc; exact hp10
    · rw [h] at hc; cases hc; exact hp32
theorem lexR_same {l l2 : List UInt8} {k v : Int} {n : Nat} (h : lexR l = .tok k n v) (hk : k ≠ 5) (ht : l2.take n = l.take n) (he : Ends l2 l n) : lexR l2 = .tok k n v := by
  obtain ⟨hn, h1⟩ := lexR_tok h
  have hn1 : 1 ≤ n := by
    rcases h1 with ⟨h, _⟩ | ⟨_, h⟩
    · exact absurd h hk
    · exact h
  cases l with
  | nil => simp at hn; omega
  | cons c t =>
    obtain ⟨t2, rfl⟩ : ∃ t2, l2 = c :: t2 := by
      cases l2 with
      | nil => have := congrArg List.length ht; simp at this; omega
      | cons c2 t2 =>
        obtain ⟨m, rfl⟩ : ∃ m, n = m + 1 := ⟨n - 1, by omega⟩
        simp at ht
        exact ⟨t2, by rw [ht.1]⟩
    simp only [lexR] at h ⊢
    split at h
    · rename_i hc
      rw [if_pos hc]
      unfold wordR at h ⊢
      split at h
      · cases h
      · rename_i hs
        cases h
        have := span_same (p := isInner) (by decide) (by decide) ht he
        rw [this, if_neg hs, ht]
    · rename_i hc
      rw [if_neg hc]
      split at h
      · rename_i hd
        rw [if_pos hd]
        unfold numberR at h ⊢
        split at h
        · cases h
        · split at h
          · cases h
          · rename_i ho hb
            cases h
            have := span_same (p := isDigit) (by decide) (by decide) ht he
            rw [this, ht, if_neg hb]
            have hodd : oddNum (c :: t2) (spanL isDigit (c :: t)) = false := by
              have ho' : oddNum (c :: t) (spanL isDigit (c :: t)) = false := by simpa using ho
              unfold oddNum at ho' ⊢
              rw [Bool.or_eq_false_iff] at ho' ⊢
              refine ⟨by simpa using ho'.1, ?_⟩
              unfold letterAt at ho' ⊢
              rcases he with h | h | h | h
              · rw [h]; exact ho'.2
              · rw [h]
              · rw [h]; decide
              · rw [h]; decide
            rw [hodd]
            rfl
      · rename_i hd
        rw [if_neg hd]
        unfold signR at h ⊢
        split at h
        · rename_i h2
          cases h
          have hl : 1 < (c :: t2).length := by
            have := congrArg List.length ht
            have h3 := h2.1
            simp at this h3 ⊢
            omega
          rw [if_pos ⟨hl, by rw [ht]; exact h2.2⟩]
        · rename_i h2
          split at h
          · rename_i h3
            cases h
            have hno : ¬ (1 < (c :: t2).length ∧ (c :: t2).take 2 ∈ signs2) := by
              rintro ⟨hl, hm⟩
              have hsec : ∀ x, x ∈ signs2 → x[1]? ≠ some 10 ∧ x[1]? ≠ some 32 := by decide
              have hx := hsec _ hm
              rw [List.getElem?_take_of_lt (by omega)] at hx
              rcases he with h | h | h | h
              · apply h2
                have e2 : (c :: t).take 2 = (c :: t2).take 2 := by
                  have : ∀ a : List UInt8, (c :: a).take 2 = c :: a[0]?.toList := by intro a; cases a <;> simp
                  rw [this, this]
                  simp at h
                  rw [h]
                refine ⟨?_, by rw [e2]; exact hm⟩
                have := congrArg List.length e2
                simp at this hl ⊢
                omega
              · simp at h hl
                rw [h] at hl
                simp at hl
              · exact hx.1 h
              · exact hx.2 h
            rw [if_neg hno, if_pos (by simpa [oneSign] using h3)]
          · cases h
/-- A comment behind a text. -/
def tailE : List UInt8 := [10, 47, 47, 32, 120, 45, 62, 121]
theorem skipN_tail (m : Bool) (l : List UInt8) : (skipN m l = l.length ∧ skipN m (l ++ tailE) = l.length + tailE.length) ∨ (skipN m l < l.length ∧ skipN m (l ++ tailE) = skipN m l) := by
  induction l generalizing m with
  | nil => cases m <;> exact .inl ⟨rfl, by decide⟩
  | cons c t ih =>
    have h1 := ih true
    have h2 := ih false
    cases m
    · by_cases hb : isBlank c = true
      · have e1 : skipN false (c :: t) = 1 + skipN false t := by simp only [skipN, hb, if_true]
        have e2 : skipN false (c :: t ++ tailE) = 1 + skipN false (t ++ tailE) := by simp only [skipN, List.cons_append, hb, if_true]
        rw [e1, e2, List.length_cons]
        omega
      · have hh : (c = 47 ∧ (t ++ tailE).head? = some 47) = (c = 47 ∧ t.head? = some 47) := by
          cases t with
          | nil => simp [tailE]
          | cons => rfl
        by_cases hc : c = 47 ∧ t.head? = some 47
        · have e1 : skipN false (c :: t) = 1 + skipN true t := by simp only [skipN]; rw [if_neg hb, if_pos hc]
          have e2 : skipN false (c :: t ++ tailE) = 1 + skipN true (t ++ tailE) := by simp only [skipN, List.cons_append]; rw [if_neg hb, if_pos (by rw [hh]; exact hc)]
          rw [e1, e2, List.length_cons]
          omega
        · have e1 : skipN false (c :: t) = 0 := by simp only [skipN]; rw [if_neg hb, if_neg hc]
          have e2 : skipN false (c :: t ++ tailE) = 0 := by simp only [skipN, List.cons_append]; rw [if_neg hb, if_neg (by rw [hh]; exact hc)]
          rw [e1, e2, List.length_cons]
          omega
    · by_cases hc : c = 10
      · have e1 : skipN true (c :: t) = 1 + skipN false t := by simp only [skipN]; rw [if_pos hc]
        have e2 : skipN true (c :: t ++ tailE) = 1 + skipN false (t ++ tailE) := by simp only [skipN, List.cons_append]; rw [if_pos hc]
        rw [e1, e2, List.length_cons]
        omega
      · have e1 : skipN true (c :: t) = 1 + skipN true t := by simp only [skipN]; rw [if_neg hc]
        have e2 : skipN true (c :: t ++ tailE) = 1 + skipN true (t ++ tailE) := by simp only [skipN, List.cons_append]; rw [if_neg hc]
        rw [e1, e2, List.length_cons]
        omega
/-- Tokens without places. -/
abbrev T3 : Type := Int × List UInt8 × Int
def strip (t : Tok) : T3 := (t.kind, t.text, t.num)
def toksG (rec : List UInt8 → Option (List T3)) (l : List UInt8) : Option (List T3) := match lexR l with
  | .bad _ => none
  | .tok k n v => if k = 5 then some [(k, l.take n, v)] else (rec (l.drop n)).map fun r => (k, l.take n, v) :: r
def toksF : Nat → List UInt8 → Option (List T3)
  | 0, _ => some []
  | g + 1, l => toksG (toksF g) (l.drop (skipN false l))
theorem toksF_of : ∀ (g : Nat) (l : List UInt8) (p : Int × Int), (∀ x, x ∈ eachF g l p → x.2 = Dg.zero) → toksF g l = some (((eachF g l p).map (·.1)).map strip) := by
  intro g
  induction g with
  | zero => intro l p _; rfl
  | succ g ih =>
    intro l p h
    simp only [eachF, toksF, toksG] at h ⊢
    cases hR : lexR (l.drop (skipN false l)) with
    | bad f => rw [hR] at h; have := h _ (List.mem_singleton.2 rfl); cases this
    | tok k n v =>
      rw [hR] at h
      simp only at h ⊢
      by_cases hk : k = 5
      · rw [if_pos hk, if_pos hk]; rfl
      · rw [if_neg hk] at h ⊢
        rw [if_neg hk]
        rw [ih _ _ (fun x hx => h x (List.mem_cons_of_mem _ hx))]
        rfl
theorem toksF_to : ∀ (g : Nat) (l : List UInt8) (p : Int × Int) (r : List T3), toksF g l = some r → (∀ x, x ∈ eachF g l p → x.2 = Dg.zero) ∧ ((eachF g l p).map (·.1)).map strip = r := by
  intro g
  induction g with
  | zero => intro l p r h; cases h; exact ⟨by simp [eachF], rfl⟩
  | succ g ih =>
    intro l p r h
    simp only [eachF, toksF, toksG] at h ⊢
    cases hR : lexR (l.drop (skipN false l)) with
    | bad f => rw [hR] at h; cases h
    | tok k n v =>
      rw [hR] at h
      simp only at h ⊢
      by_cases hk : k = 5
      · rw [if_pos hk] at h ⊢; cases h; exact ⟨by simp, rfl⟩
      · rw [if_neg hk] at h ⊢
        cases hr : toksF g ((l.drop (skipN false l)).drop n) with
        | none => rw [hr] at h; cases h
        | some r' =>
          rw [hr] at h
          cases h
          obtain ⟨h1, h2⟩ := ih _ (adv (adv p (l.take (skipN false l))) ((l.drop (skipN false l)).take n)) _ hr
          exact ⟨fun x hx => by
            rcases List.mem_cons.1 hx with rfl | hx
            · rfl
            · exact h1 x hx, by simp only [List.map_cons]; rw [h2]; rfl⟩
theorem lexR_n {l : List UInt8} {k v : Int} {n : Nat} (h : lexR l = .tok k n v) : n ≤ l.length ∧ (k = 5 → l = [] ∧ n = 0 ∧ v = 0) ∧ (k ≠ 5 → 1 ≤ n) := by
  obtain ⟨h1, h2⟩ := lexR_tok h
  refine ⟨h1, fun hk => ?_, fun hk => ?_⟩
  · rcases h2 with ⟨_, rfl, rfl⟩ | ⟨h, _⟩
    · simp only [lexR] at h; cases h; exact ⟨rfl, rfl, rfl⟩
    · exact absurd hk h
  · rcases h2 with ⟨h, _⟩ | ⟨_, h⟩
    · exact absurd h hk
    · exact h
theorem toksF_tail : ∀ (g : Nat) (l : List UInt8) (r : List T3), l.length < g → toksF g l = some r → ∀ g', (l ++ tailE).length < g' → toksF g' (l ++ tailE) = some r := by
  intro g
  induction g with
  | zero => intro l r h; omega
  | succ g ih =>
    intro l r hg h g' hg'
    obtain ⟨g', rfl⟩ : ∃ m, g' = m + 1 := ⟨g' - 1, by omega⟩
    simp only [toksF] at h ⊢
    have hsk := skipN_tail false l
    have hle := skipN_le false l
    rcases hsk with ⟨hall, hsk⟩ | ⟨hall, hsk⟩
    · rw [hsk, List.drop_eq_nil_of_le (by simp)]
      rw [hall, List.drop_eq_nil_of_le (Nat.le_refl _)] at h
      exact h
    · rw [hsk, List.drop_append_of_le_length hle]
      have hl' : (l.drop (skipN false l)).length = l.length - skipN false l := List.length_drop
      generalize l.drop (skipN false l) = l' at *
      unfold toksG at h ⊢
      cases hR : lexR l' with
      | bad f => rw [hR] at h; cases h
      | tok k n v =>
        rw [hR] at h
        obtain ⟨n1, n2, n3⟩ := lexR_n hR
        have hk : k ≠ 5 := fun hk => by have := (n2 hk).1; rw [this] at hl'; simp at hl'; omega
        have h2 : lexR (l' ++ tailE) = .tok k n v := lexR_same hR hk (List.take_append_of_le_length n1) (by
          by_cases hn : n < l'.length
          · exact .inl (List.getElem?_append_left hn)
          · refine .inr (.inr (.inl ?_))
            rw [List.getElem?_append_right (by omega)]
            have : n - l'.length = 0 := by omega
            rw [this]; rfl)
        rw [h2]
        simp only [if_neg hk] at h ⊢
        have n3 := n3 hk
        rw [List.take_append_of_le_length n1, List.drop_append_of_le_length n1]
        cases hr : toksF g (l'.drop n) with
        | none => rw [hr] at h; cases h
        | some r' =>
          rw [hr] at h
          rw [ih (l'.drop n) r' (by simp; omega) hr g' (by simp at hg' ⊢; omega)]
          exact h
theorem toksF_blank (g : Nat) (c : UInt8) (l : List UInt8) (hc : isBlank c = true) : toksF (g + 1) (c :: l) = toksF (g + 1) l := by
  simp only [toksF, skipN, hc, if_true]
  rw [Nat.add_comm 1, List.drop_succ_cons]
/-- What was read as a token. -/
def Good (x : T3) : Prop := x.1 ≠ 5 ∧ ∃ l, lexR l = .tok x.1 x.2.1.length x.2.2 ∧ l.take x.2.1.length = x.2.1
theorem good_skip {x : T3} (h : Good x) {rest : List UInt8} (hr : rest = [] ∨ rest.head? = some 32) : skipN false (x.2.1 ++ rest) = 0 := by
  obtain ⟨k, x, v⟩ := x
  obtain ⟨hk, l, h1, h2⟩ := h
  simp only at hk h1 h2 ⊢
  obtain ⟨n1, _, n3⟩ := lexR_n h1
  have n3 := n3 hk
  cases l with
  | nil => simp only [List.length_nil] at n1; omega
  | cons c t =>
    cases x with
    | nil => simp at n3
    | cons c' x' =>
      have hcc : c = c' := by simp at h2; exact h2.1
      subst hcc
      have key : isBlank c = false ∧ ¬ (c = 47 ∧ (x' ++ rest).head? = some 47) := by
        simp only [lexR] at h1
        split at h1
        · rename_i hl
          have := byte_all (p := fun c => !isLetter c || (!isBlank c && decide (c ≠ 47))) (by decide +kernel) c
          simp [hl] at this
          exact ⟨this.1, fun h => this.2 h.1⟩
        · split at h1
          · rename_i hl
            have := byte_all (p := fun c => !isDigit c || (!isBlank c && decide (c ≠ 47))) (by decide +kernel) c
            simp [hl] at this
            exact ⟨this.1, fun h => this.2 h.1⟩
          · unfold signR at h1
            split at h1
            · rename_i hs
              have : ∀ x, x ∈ signs2 → ∀ c, x[0]? = some c → isBlank c = false ∧ c ≠ 47 := by decide
              have := this _ hs.2 c (by simp)
              exact ⟨this.1, fun h => this.2 h.1⟩
            · split at h1
              · rename_i hs
                simp only [oneSign, decide_eq_true_eq] at hs
                have : ∀ c, c ∈ signs1 → isBlank c = false := by decide
                refine ⟨this c hs, ?_⟩
                rintro ⟨_, hh⟩
                have hx : x' = [] := by
                  have : (c :: x').length = 1 := by injection h1 with _ h _; exact h.symm
                  simpa using this
                subst hx
                rcases hr with rfl | hr
                · simp at hh
                · simp at hh; rw [hr] at hh; simp at hh
              · cases h1
      rw [List.cons_append]
      simp only [skipN]
      rw [key.1, if_neg (by simp), if_neg key.2]
theorem toks_join : ∀ (xs : List T3), (∀ x, x ∈ xs → Good x) → ∀ g, (joinL [32] (xs.map (·.2.1))).length < g → toksF g (joinL [32] (xs.map (·.2.1))) = some (xs ++ [(5, [], 0)]) := by
  intro xs
  induction xs with
  | nil =>
    intro _ g hg
    obtain ⟨g, rfl⟩ : ∃ m, g = m + 1 := ⟨g - 1, by omega⟩
    rfl
  | cons x xs ih =>
    intro hall g hg
    have hx := hall x (by simp)
    have hxs := fun y hy => hall y (List.mem_cons_of_mem _ hy)
    obtain ⟨g, rfl⟩ : ∃ m, g = m + 1 := ⟨g - 1, by omega⟩
    have hJ : ∃ rest, joinL [32] ((x :: xs).map (·.2.1)) = x.2.1 ++ rest ∧ (rest = [] ∧ xs = [] ∨ rest = 32 :: joinL [32] (xs.map (·.2.1))) := by
      cases xs with
      | nil => exact ⟨[], by simp [joinL], .inl ⟨rfl, rfl⟩⟩
      | cons y ys => exact ⟨_, by simp only [List.map_cons, joinL]; rw [List.append_assoc]; rfl, .inr rfl⟩
    obtain ⟨rest, he, hr⟩ := hJ
    rw [he] at hg ⊢
    have hr' : rest = [] ∨ rest.head? = some 32 := by rcases hr with ⟨h, _⟩ | h <;> simp [h]
    have hsk := good_skip hx hr'
    obtain ⟨hk, l, h1, h2⟩ := hx
    obtain ⟨n1, _, n3⟩ := lexR_n h1
    have n3 := n3 hk
    have h3 : lexR (x.2.1 ++ rest) = .tok x.1 x.2.1.length x.2.2 := lexR_same h1 hk (by rw [List.take_left, h2]) (by
      unfold Ends
      rw [List.getElem?_append_right (Nat.le_refl _), Nat.sub_self]
      rcases hr with ⟨rfl, _⟩ | rfl
      · exact .inr (.inl rfl)
      · exact .inr (.inr (.inr rfl)))
    simp only [toksF]
    rw [hsk, List.drop_zero]
    unfold toksG
    rw [h3]
    simp only [if_neg hk]
    rw [List.drop_left, List.take_left]
    simp only [List.length_append] at hg
    obtain ⟨g, rfl⟩ : ∃ m, g = m + 1 := ⟨g - 1, by omega⟩
    rcases hr with ⟨rfl, rfl⟩ | rfl
    · rfl
    · rw [toksF_blank g 32 _ (by decide), ih hxs (g + 1) (by simp at hg; omega)]
      rfl
theorem joinL_cons (sep x : List UInt8) (xs : List (List UInt8)) : (joinL sep (x :: xs)).length ≤ x.length + sep.length + (joinL sep xs).length := by
  cases xs with
  | nil => simp [joinL]
  | cons y ys => simp [joinL]; omega
theorem toksF_good : ∀ (g : Nat) (l : List UInt8) (r : List T3), l.length < g → toksF g l = some r → ∃ xs, r = xs ++ [(5, [], 0)] ∧ (∀ x, x ∈ xs → Good x) ∧ (joinL [32] (xs.map (·.2.1))).length ≤ 2 * l.length ∧ xs.length ≤ l.length := by
  intro g
  induction g with
  | zero => intro l r h; omega
  | succ g ih =>
    intro l r hg h
    simp only [toksF] at h
    have hle := skipN_le false l
    have hl' : (l.drop (skipN false l)).length = l.length - skipN false l := List.length_drop
    generalize l.drop (skipN false l) = l' at *
    unfold toksG at h
    cases hR : lexR l' with
    | bad f => rw [hR] at h; cases h
    | tok k n v =>
      rw [hR] at h
      obtain ⟨n1, n2, n3⟩ := lexR_n hR
      simp only at h
      by_cases hk : k = 5
      · rw [if_pos hk] at h
        cases h
        obtain ⟨rfl, rfl, rfl⟩ := n2 hk
        exact ⟨[], by rw [hk]; rfl, by simp, by simp [joinL], by simp⟩
      · rw [if_neg hk] at h
        have n3 := n3 hk
        cases hr : toksF g (l'.drop n) with
        | none => rw [hr] at h; cases h
        | some r' =>
          rw [hr] at h
          cases h
          obtain ⟨xs, rfl, h1, h2, h3⟩ := ih (l'.drop n) r' (by simp; omega) hr
          have hlen : (l'.take n).length = n := by simp; omega
          simp only [List.length_drop] at h2 h3
          refine ⟨(k, l'.take n, v) :: xs, rfl, fun x hx => ?_, ?_, ?_⟩
          · rcases List.mem_cons.1 hx with rfl | hx
            · exact ⟨hk, l', by simp only [hlen]; exact hR, by simp only [hlen]⟩
            · exact h1 x hx
          · have := joinL_cons [32] (l'.take n) (xs.map (·.2.1))
            simp only [List.map_cons, List.length_cons, List.length_nil] at this ⊢
            omega
          · simp only [List.length_cons]; omega
theorem sameL_strip : ∀ {ts ms : List Tok}, ts.map strip = ms.map strip → sameL ts ms = true
  | [], [], _ => rfl
  | a :: l, b :: m, h => by
    simp only [List.map_cons, List.cons.injEq, strip, Prod.mk.injEq] at h
    simp only [sameL, sameT, h.1.1, h.1.2.1, h.1.2.2, decide_true, Bool.true_and]
    exact sameL_strip h.2
  | [], _ :: _, h => by cases h
  | _ :: _, [], h => by cases h
theorem texts_strip : ∀ {ts : List Tok} {xs : List T3}, ts.map strip = xs ++ [(5, [], 0)] → (∀ x, x ∈ xs → Good x) → texts ts = xs.map (·.2.1)
  | [], xs, h, _ => by simp at h
  | t :: ts, [], h, _ => by
    simp only [List.map_cons, List.nil_append, List.cons.injEq, List.map_eq_nil_iff, strip, Prod.mk.injEq] at h
    obtain ⟨⟨h1, _⟩, rfl⟩ := h
    simp [texts, h1]
  | t :: ts, x :: xs, h, hg => by
    simp only [List.map_cons, List.cons_append, List.cons.injEq] at h
    have hx := (hg x (by simp)).1
    rw [← h.1] at hx
    have ih := texts_strip h.2 (fun y hy => hg y (List.mem_cons_of_mem _ hy))
    unfold texts at ih ⊢
    simp only [strip] at hx
    rw [List.filter_cons_of_pos (by simpa using hx), List.map_cons, List.map_cons, ih, ← h.1]
    rfl
/-- What scanning a text anew comes to. -/
theorem scan_again {s : List UInt8} (hs : s.length ≤ 3000) (h : ∀ x, x ∈ eachL s → x.2 = Dg.zero) :
    (∀ x, x ∈ eachL (textL ((eachL s).map (·.1))) → x.2 = Dg.zero) ∧ sameL ((eachL s).map (·.1)) ((eachL (textL ((eachL s).map (·.1)))).map (·.1)) = true ∧
    (∀ x, x ∈ eachL (32 :: 10 :: 9 :: (s ++ tailE)) → x.2 = Dg.zero) ∧ sameL ((eachL s).map (·.1)) ((eachL (32 :: 10 :: 9 :: (s ++ tailE))).map (·.1)) = true ∧ (textL ((eachL s).map (·.1))).length ≤ 6000 := by
  have e : eachL s = eachF (s.length + 1) s (1, 1) := by unfold eachL; rw [if_neg (by omega)]
  rw [e] at h ⊢
  have h1 := toksF_of _ _ _ h
  obtain ⟨xs, hxs, hgood, hlen, _⟩ := toksF_good _ _ _ (by omega) h1
  have htx := texts_strip hxs hgood
  generalize (eachF (s.length + 1) s (1, 1)).map (·.1) = ts at *
  have hT : textL ts = joinL [32] (xs.map (·.2.1)) := by unfold textL; rw [htx]
  rw [hT]
  have e2 : eachL (joinL [32] (xs.map (·.2.1))) = eachF ((joinL [32] (xs.map (·.2.1))).length + 1) (joinL [32] (xs.map (·.2.1))) (1, 1) := by unfold eachL; rw [if_neg (by omega)]
  obtain ⟨k1, k2⟩ := toksF_to _ _ (1, 1) _ (toks_join xs hgood ((joinL [32] (xs.map (·.2.1))).length + 1) (Nat.lt_succ_self _))
  have ht : tailE.length = 8 := rfl
  have e3 : eachL (32 :: 10 :: 9 :: (s ++ tailE)) = eachF ((32 :: 10 :: 9 :: (s ++ tailE)).length + 1) (32 :: 10 :: 9 :: (s ++ tailE)) (1, 1) := by unfold eachL; rw [if_neg (by simp; omega)]
  have h3 := toksF_tail _ s _ (by omega) h1 ((32 :: 10 :: 9 :: (s ++ tailE)).length + 1) (by simp; omega)
  rw [← toksF_blank _ 9 _ (by decide), ← toksF_blank _ 10 _ (by decide), ← toksF_blank _ 32 _ (by decide)] at h3
  obtain ⟨k3, k4⟩ := toksF_to _ _ (1, 1) _ h3
  rw [e2, e3]
  exact ⟨k1, sameL_strip (by rw [k2, hxs]), k3, sameL_strip (by rw [k4]), by omega⟩
end Go.Proofs.Ytlcbnlfbbjmpbaa
