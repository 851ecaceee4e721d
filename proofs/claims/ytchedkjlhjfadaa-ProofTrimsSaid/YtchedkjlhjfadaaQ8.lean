/- Law 16: what is used, and what is left of a proof, trimmed. Conditions: none. -/
import Derived.Test.YtchedkjlhjfadaaQ5
import Derived.Test.YtchedkjlhjfadaaQ7
set_option linter.unusedSimpArgs false
set_option linter.unusedVariables false
namespace Go.Proofs.Ytchedkjlhjfadaa
open Go Go.Ab
def at0 (l : List Ps) (i : Nat) : Ps := l.getD i ⟨0, 0, 0⟩
/-- A clause by its number. -/
def cl (fl out : List (List Int)) (x : Int) : List Int := (fl ++ out).getD x.toNat []
/-- Each step is right, with its clause. -/
structure Ok (fl : List (List Int)) (l : List Ps) (out : List (List Int)) : Prop where
  len : out.length = l.length
  at_ : ∀ i, i < l.length → 0 ≤ (at0 l i).a ∧ (at0 l i).a < ((fl.length + i : Nat) : Int) ∧ 0 ≤ (at0 l i).b ∧ (at0 l i).b < ((fl.length + i : Nat) : Int) ∧ resolveP (cl fl out (at0 l i).a) (cl fl out (at0 l i).b) (at0 l i).on = some (cl fl out ((fl.length + i : Nat) : Int))
theorem getD_app1 {a b : List (List Int)} {i : Nat} (h : i < a.length) : (a ++ b).getD i [] = a.getD i [] := by
  rw [List.getD_eq_getElem?_getD, List.getD_eq_getElem?_getD, List.getElem?_append_left h]
theorem getD_app2 {a b : List (List Int)} {i : Nat} : (a ++ b).getD (a.length + i) [] = b.getD i [] := by
  rw [List.getD_eq_getElem?_getD, List.getD_eq_getElem?_getD, List.getElem?_append_right (by omega)]
  congr 2
  omega
theorem cls_gen {fl : List (List Int)} : ∀ {l : List Ps} {o out : List (List Int)}, clsP fl o l = (out, true) ↔ ∃ o2, out = o ++ o2 ∧ o2.length = l.length ∧ ∀ i, i < l.length → 0 ≤ (at0 l i).a ∧ (at0 l i).a < ((fl.length + o.length + i : Nat) : Int) ∧ 0 ≤ (at0 l i).b ∧ (at0 l i).b < ((fl.length + o.length + i : Nat) : Int) ∧ resolveP (cl fl out (at0 l i).a) (cl fl out (at0 l i).b) (at0 l i).on = some (cl fl out ((fl.length + o.length + i : Nat) : Int))
  | [], o, out => by
    simp only [clsP, Prod.mk.injEq, and_true]
    constructor
    · rintro rfl
      exact ⟨[], by simp, rfl, fun i h => absurd h (Nat.not_lt_zero _)⟩
    · rintro ⟨o2, rfl, h, _⟩
      have : o2 = [] := List.length_eq_zero_iff.1 h
      simp [this]
  | s :: l, o, out => by
    have hsucc : ∀ i, at0 (s :: l) (i + 1) = at0 l i := fun i => rfl
    have h0 : at0 (s :: l) 0 = s := rfl
    have hlen : (fl ++ o).length = fl.length + o.length := List.length_append
    constructor
    · intro h
      simp only [clsP] at h
      split at h
      · simp at h
      · rename_i hc
        have hc1 : ¬ min s.a s.b < 0 := fun h => hc (.inl h)
        have hc2 : ¬ ((fl ++ o).length : Int) ≤ max s.a s.b := fun h => hc (.inr h)
        split at h
        · rename_i c hr
          obtain ⟨o2, rfl, hl, hall⟩ := cls_gen.1 h
          have happ : o ++ [c] ++ o2 = o ++ (c :: o2) := by simp
          rw [happ] at hall ⊢
          refine ⟨c :: o2, rfl, by simp [hl], fun i hi => ?_⟩
          cases i with
          | zero =>
            rw [h0]
            refine ⟨by omega, by omega, by omega, by omega, ?_⟩
            unfold cl
            rw [← List.append_assoc, getD_app1 (a := fl ++ o) (i := s.a.toNat) (by omega), getD_app1 (a := fl ++ o) (i := s.b.toNat) (by omega), hr, ← hlen, Int.toNat_natCast, getD_app2]
            rfl
          | succ i =>
            have := hall i (by simp at hi; omega)
            rw [hsucc]
            simp only [List.length_append, List.length_cons, List.length_nil] at this
            rw [show fl.length + o.length + (i + 1) = fl.length + (o.length + (0 + 1)) + i by omega]
            exact this
        · simp at h
    · rintro ⟨o2, rfl, hl, hall⟩
      cases o2 with
      | nil => simp at hl
      | cons c o2 =>
        have k0 := hall 0 (by simp)
        rw [h0] at k0
        obtain ⟨k1, k2, k3, k4, k5⟩ := k0
        simp only [clsP]
        rw [if_neg (by omega)]
        have k6 : resolveP ((fl ++ o).getD s.a.toNat []) ((fl ++ o).getD s.b.toNat []) s.on = some c := by
          unfold cl at k5
          rw [← List.append_assoc, getD_app1 (a := fl ++ o) (i := s.a.toNat) (by omega), getD_app1 (a := fl ++ o) (i := s.b.toNat) (by omega), ← hlen, Int.toNat_natCast, getD_app2] at k5
          exact k5
        rw [k6]
        simp only
        refine cls_gen.2 ⟨o2, by simp, by simpa using hl, fun i hi => ?_⟩
        have := hall (i + 1) (by simp; omega)
        rw [hsucc] at this
        simp only [List.length_append, List.length_cons, List.length_nil]
        rw [show fl.length + (o.length + (0 + 1)) + i = fl.length + o.length + (i + 1) by omega]
        exact this
theorem cls_ok {fl : List (List Int)} {l : List Ps} {out : List (List Int)} : clsP fl [] l = (out, true) ↔ Ok fl l out := by
  rw [cls_gen]
  constructor
  · rintro ⟨o2, rfl, h1, h2⟩
    exact ⟨h1, h2⟩
  · rintro ⟨h1, h2⟩
    exact ⟨out, rfl, h1, h2⟩
/-- From which clauses one comes. -/
inductive Reach (n : Nat) (l : List Ps) (e : Int) : Int → Prop
  | base : Reach n l e e
  | a {i : Nat} : i < l.length → Reach n l e ((n + i : Nat) : Int) → Reach n l e (at0 l i).a
  | b {i : Nat} : i < l.length → Reach n l e ((n + i : Nat) : Int) → Reach n l e (at0 l i).b
def Down (n : Nat) (l : List Ps) : Prop := ∀ i, i < l.length → (at0 l i).a < ((n + i : Nat) : Int) ∧ (at0 l i).b < ((n + i : Nat) : Int)
theorem step_mono {n : Nat} {s : List Int} {p : Ps × Nat} {x : Int} (h : x ∈ s) : x ∈ usedStep n s p := by
  unfold usedStep
  split
  · rw [mem_addK, mem_addK]; exact .inl (.inl h)
  · exact h
theorem fold_mono {n : Nat} {x : Int} : ∀ {q : List (Ps × Nat)} {s : List Int}, x ∈ s → x ∈ q.foldl (usedStep n) s
  | [], s, h => h
  | p :: q, s, h => fold_mono (q := q) (step_mono h)
theorem step_inv {n : Nat} {s : List Int} {p : Ps × Nat} {x : Int} (h : x ∈ usedStep n s p) : x ∈ s ∨ (((n + p.2 : Nat) : Int) ∈ s ∧ (x = p.1.a ∨ x = p.1.b)) := by
  unfold usedStep at h
  split at h
  · rename_i hm
    rw [mem_addK, mem_addK] at h
    rcases h with (h | h) | h
    · exact .inl h
    · exact .inr ⟨hm, .inl h⟩
    · exact .inr ⟨hm, .inr h⟩
  · exact .inl h
theorem fold_late {n : Nat} {l : List Ps} (hd : Down n l) {x : Int} : ∀ {m : Nat} {s : List Int}, m ≤ l.length → x ∈ (bkL l m).foldl (usedStep n) s → x ∈ s ∨ x < ((n + m : Nat) : Int)
  | 0, s, _, h => .inl h
  | m + 1, s, hm, h => by
    simp only [bkL, List.foldl_cons] at h
    rcases fold_late hd (by omega) h with h | h
    · rcases step_inv h with h | ⟨_, h | h⟩
      · exact .inl h
      · have := (hd m (by omega)).1; unfold at0 at this; simp only at h; exact .inr (by omega)
      · have := (hd m (by omega)).2; unfold at0 at this; simp only at h; exact .inr (by omega)
    · exact .inr (by omega)
theorem fold_closed {n : Nat} {l : List Ps} (hd : Down n l) : ∀ {m : Nat} {s : List Int}, m ≤ l.length → ∀ i, i < m → ((n + i : Nat) : Int) ∈ (bkL l m).foldl (usedStep n) s → (at0 l i).a ∈ (bkL l m).foldl (usedStep n) s ∧ (at0 l i).b ∈ (bkL l m).foldl (usedStep n) s
  | 0, s, _, i, hi, _ => absurd hi (Nat.not_lt_zero _)
  | m + 1, s, hm, i, hi, h => by
    simp only [bkL, List.foldl_cons] at h ⊢
    by_cases e : i = m
    · subst e
      rcases fold_late hd (by omega) h with h | h
      · have hin : ((n + i : Nat) : Int) ∈ s := by
          have hdd := hd i (by omega)
          unfold at0 at hdd
          rcases step_inv h with h | ⟨h, _⟩
          · exact h
          · exact h
        have hst : usedStep n s (l.getD i ⟨0, 0, 0⟩, i) = addK (addK s (l.getD i ⟨0, 0, 0⟩).a) (l.getD i ⟨0, 0, 0⟩).b := if_pos hin
        rw [hst]
        exact ⟨fold_mono (by rw [mem_addK, mem_addK]; exact .inl (.inr rfl)), fold_mono (by rw [mem_addK]; exact .inr rfl)⟩
      · omega
    · exact fold_closed hd (by omega) i (by omega) h
theorem used_iff {n : Nat} {l : List Ps} (hd : Down n l) {e x : Int} : x ∈ usedP n l e ↔ Reach n l e x := by
  constructor
  · have hs : ∀ (m : Nat) (s : List Int), m ≤ l.length → (∀ y, y ∈ s → Reach n l e y) → ∀ y, y ∈ (bkL l m).foldl (usedStep n) s → Reach n l e y := by
      intro m
      induction m with
      | zero => intro s _ h; exact h
      | succ m ih =>
        intro s hm h
        simp only [bkL, List.foldl_cons]
        refine ih _ (by omega) fun y hy => ?_
        rcases step_inv hy with h2 | ⟨h2, h3 | h3⟩
        · exact h y h2
        · rw [h3]; exact .a (by omega) (h _ h2)
        · rw [h3]; exact .b (by omega) (h _ h2)
    exact hs l.length [e] (Nat.le_refl _) (fun y hy => by rw [List.mem_singleton] at hy; subst hy; exact .base) x
  · intro h
    induction h with
    | base => exact fold_mono (by simp)
    | a hi _ ih => exact (fold_closed hd (Nat.le_refl _) _ hi ih).1
    | b hi _ ih => exact (fold_closed hd (Nat.le_refl _) _ hi ih).2
end Go.Proofs.Ytchedkjlhjfadaa
