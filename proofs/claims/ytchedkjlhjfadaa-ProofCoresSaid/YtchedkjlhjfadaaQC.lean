/- Law 16: what is used, and what is left of a proof, trimmed; Law 16: a proof that is trimmed is one, with the same core; Law 16: the core of what is trimmed; trimmed again. Conditions: none. -/
import Derived.Test.YtchedkjlhjfadaaQA
import Derived.Test.YtchedkjlhjfadaaQB
set_option linter.unusedSimpArgs false
set_option linter.unusedVariables false
namespace Go.Proofs.Ytchedkjlhjfadaa
open Go Go.Ab
def at0 (l : List Ps) (i : Nat) : Ps := l.getD i ⟨0, 0, 0⟩
/-- A clause by its number. -/
def cl (fl out : List (List Int)) (x : Int) : List Int := (fl ++ out).getD x.toNat []
/-- Each step is right, with its clause. -/
structure Ok (fl : List (List Int)) (l : List Ps) (out : List (List Int)) : Prop where
  len : out.length = l.length
  at_ : ∀ i, i < l.length → 0 ≤ (at0 l i).a ∧ (at0 l i).a < ((fl.length + i : Nat) : Int) ∧ 0 ≤ (at0 l i).b ∧ (at0 l i).b < ((fl.length + i : Nat) : Int) ∧ resolveP (cl fl out (at0 l i).a) (cl fl out (at0 l i).b) (at0 l i).on = some (cl fl out ((fl.length + i : Nat) : Int))
theorem getD_app1 {a b : List (List Int)} {i : Nat} (h : i < a.length) : (a ++ b).getD i [] = a.getD i [] := by
  rw [List.getD_eq_getElem?_getD, List.getD_eq_getElem?_getD, List.getElem?_append_left h]
theorem getD_app2 {a b : List (List Int)} {i : Nat} : (a ++ b).getD (a.length + i) [] = b.getD i [] := by
  rw [List.getD_eq_getElem?_getD, List.getD_eq_getElem?_getD, List.getElem?_append_right (by omega)]
  congr 2
  omega
theorem cls_gen {fl : List (List Int)} : ∀ {l : List Ps} {o out : List (List Int)}, clsP fl o l = (out, true) ↔ ∃ o2, out = o ++ o2 ∧ o2.length = l.length ∧ ∀ i, i < l.length → 0 ≤ (at0 l i).a ∧ (at0 l i).a < ((fl.length + o.length + i : Nat) : Int) ∧ 0 ≤ (at0 l i).b ∧ (at0 l i).b < ((fl.length + o.length + i : Nat) : Int) ∧ resolveP (cl fl out (at0 l i).a) (cl fl out (at0 l i).b) (at0 l i).on = some (cl fl out ((fl.length + o.length + i : Nat) : Int))
  | [], o, out => by
    simp only [clsP, Prod.mk.injEq, and_true]
    constructor
    · rintro rfl
      exact ⟨[], by simp, rfl, fun i h => absurd h (Nat.not_lt_zero _)⟩
    · rintro ⟨o2, rfl, h, _⟩
      have : o2 = [] := List.length_eq_zero_iff.1 h
      simp [this]
  | s :: l, o, out => by
    have hsucc : ∀ i, at0 (s :: l) (i + 1) = at0 l i := fun i => rfl
    have h0 : at0 (s :: l) 0 = s := rfl
    have hlen : (fl ++ o).length = fl.length + o.length := List.length_append
    constructor
    · intro h
      simp only [clsP] at h
      split at h
      · simp at h
      · rename_i hc
        have hc1 : ¬ min s.a s.b < 0 := fun h => hc (.inl h)
        have hc2 : ¬ ((fl ++ o).length : Int) ≤ max s.a s.b := fun h => hc (.inr h)
        split at h
        · rename_i c hr
          obtain ⟨o2, rfl, hl, hall⟩ := cls_gen.1 h
          have happ : o ++ [c] ++ o2 = o ++ (c :: o2) := by simp
          rw [happ] at hall ⊢
          refine ⟨c :: o2, rfl, by simp [hl], fun i hi => ?_⟩
          cases i with
          | zero =>
            rw [h0]
            refine ⟨by omega, by omega, by omega, by omega, ?_⟩
            unfold cl
            rw [← List.append_assoc, getD_app1 (a := fl ++ o) (i := s.a.toNat) (by omega), getD_app1 (a := fl ++ o) (i := s.b.toNat) (by omega), hr, ← hlen, Int.toNat_natCast, getD_app2]
            rfl
          | succ i =>
            have := hall i (by simp at hi; omega)
            rw [hsucc]
            simp only [List.length_append, List.length_cons, List.length_nil] at this
            rw [show fl.length + o.length + (i + 1) = fl.length + (o.length + (0 + 1)) + i by omega]
            exact this
        · simp at h
    · rintro ⟨o2, rfl, hl, hall⟩
      cases o2 with
      | nil => simp at hl
      | cons c o2 =>
        have k0 := hall 0 (by simp)
        rw [h0] at k0
        obtain ⟨k1, k2, k3, k4, k5⟩ := k0
        simp only [clsP]
        rw [if_neg (by omega)]
        have k6 : resolveP ((fl ++ o).getD s.a.toNat []) ((fl ++ o).getD s.b.toNat []) s.on = some c := by
          unfold cl at k5
          rw [← List.append_assoc, getD_app1 (a := fl ++ o) (i := s.a.toNat) (by omega), getD_app1 (a := fl ++ o) (i := s.b.toNat) (by omega), ← hlen, Int.toNat_natCast, getD_app2] at k5
          exact k5
        rw [k6]
        simp only
        refine cls_gen.2 ⟨o2, by simp, by simpa using hl, fun i hi => ?_⟩
        have := hall (i + 1) (by simp; omega)
        rw [hsucc] at this
        simp only [List.length_append, List.length_cons, List.length_nil]
        rw [show fl.length + (o.length + (0 + 1)) + i = fl.length + o.length + (i + 1) by omega]
        exact this
theorem cls_ok {fl : List (List Int)} {l : List Ps} {out : List (List Int)} : clsP fl [] l = (out, true) ↔ Ok fl l out := by
  rw [cls_gen]
  constructor
  · rintro ⟨o2, rfl, h1, h2⟩
    exact ⟨h1, h2⟩
  · rintro ⟨h1, h2⟩
    exact ⟨out, rfl, h1, h2⟩
/-- From which clauses one comes. -/
inductive Reach (n : Nat) (l : List Ps) (e : Int) : Int → Prop
  | base : Reach n l e e
  | a {i : Nat} : i < l.length → Reach n l e ((n + i : Nat) : Int) → Reach n l e (at0 l i).a
  | b {i : Nat} : i < l.length → Reach n l e ((n + i : Nat) : Int) → Reach n l e (at0 l i).b
def Down (n : Nat) (l : List Ps) : Prop := ∀ i, i < l.length → (at0 l i).a < ((n + i : Nat) : Int) ∧ (at0 l i).b < ((n + i : Nat) : Int)
theorem step_mono {n : Nat} {s : List Int} {p : Ps × Nat} {x : Int} (h : x ∈ s) : x ∈ usedStep n s p := by
  unfold usedStep
  split
  · rw [mem_addK, mem_addK]; exact .inl (.inl h)
  · exact h
theorem fold_mono {n : Nat} {x : Int} : ∀ {q : List (Ps × Nat)} {s : List Int}, x ∈ s → x ∈ q.foldl (usedStep n) s
  | [], s, h => h
  | p :: q, s, h => fold_mono (q := q) (step_mono h)
theorem step_inv {n : Nat} {s : List Int} {p : Ps × Nat} {x : Int} (h : x ∈ usedStep n s p) : x ∈ s ∨ (((n + p.2 : Nat) : Int) ∈ s ∧ (x = p.1.a ∨ x = p.1.b)) := by
  unfold usedStep at h
  split at h
  · rename_i hm
    rw [mem_addK, mem_addK] at h
    rcases h with (h | h) | h
    · exact .inl h
    · exact .inr ⟨hm, .inl h⟩
    · exact .inr ⟨hm, .inr h⟩
  · exact .inl h
theorem fold_late {n : Nat} {l : List Ps} (hd : Down n l) {x : Int} : ∀ {m : Nat} {s : List Int}, m ≤ l.length → x ∈ (bkL l m).foldl (usedStep n) s → x ∈ s ∨ x < ((n + m : Nat) : Int)
  | 0, s, _, h => .inl h
  | m + 1, s, hm, h => by
    simp only [bkL, List.foldl_cons] at h
    rcases fold_late hd (by omega) h with h | h
    · rcases step_inv h with h | ⟨_, h | h⟩
      · exact .inl h
      · have := (hd m (by omega)).1; unfold at0 at this; simp only at h; exact .inr (by omega)
      · have := (hd m (by omega)).2; unfold at0 at this; simp only at h; exact .inr (by omega)
    · exact .inr (by omega)
theorem fold_closed {n : Nat} {l : List Ps} (hd : Down n l) : ∀ {m : Nat} {s : List Int}, m ≤ l.length → ∀ i, i < m → ((n + i : Nat) : Int) ∈ (bkL l m).foldl (usedStep n) s → (at0 l i).a ∈ (bkL l m).foldl (usedStep n) s ∧ (at0 l i).b ∈ (bkL l m).foldl (usedStep n) s
  | 0, s, _, i, hi, _ => absurd hi (Nat.not_lt_zero _)
  | m + 1, s, hm, i, hi, h => by
    simp only [bkL, List.foldl_cons] at h ⊢
    by_cases e : i = m
    · subst e
      rcases fold_late hd (by omega) h with h | h
      · have hin : ((n + i : Nat) : Int) ∈ s := by
          have hdd := hd i (by omega)
          unfold at0 at hdd
          rcases step_inv h with h | ⟨h, _⟩
          · exact h
          · exact h
        have hst : usedStep n s (l.getD i ⟨0, 0, 0⟩, i) = addK (addK s (l.getD i ⟨0, 0, 0⟩).a) (l.getD i ⟨0, 0, 0⟩).b := if_pos hin
        rw [hst]
        exact ⟨fold_mono (by rw [mem_addK, mem_addK]; exact .inl (.inr rfl)), fold_mono (by rw [mem_addK]; exact .inr rfl)⟩
      · omega
    · exact fold_closed hd (by omega) i (by omega) h
theorem used_iff {n : Nat} {l : List Ps} (hd : Down n l) {e x : Int} : x ∈ usedP n l e ↔ Reach n l e x := by
  constructor
  · have hs : ∀ (m : Nat) (s : List Int), m ≤ l.length → (∀ y, y ∈ s → Reach n l e y) → ∀ y, y ∈ (bkL l m).foldl (usedStep n) s → Reach n l e y := by
      intro m
      induction m with
      | zero => intro s _ h; exact h
      | succ m ih =>
        intro s hm h
        simp only [bkL, List.foldl_cons]
        refine ih _ (by omega) fun y hy => ?_
        rcases step_inv hy with h2 | ⟨h2, h3 | h3⟩
        · exact h y h2
        · rw [h3]; exact .a (by omega) (h _ h2)
        · rw [h3]; exact .b (by omega) (h _ h2)
    exact hs l.length [e] (Nat.le_refl _) (fun y hy => by rw [List.mem_singleton] at hy; subst hy; exact .base) x
  · intro h
    induction h with
    | base => exact fold_mono (by simp)
    | a hi _ ih => exact (fold_closed hd (Nat.le_refl _) _ hi ih).1
    | b hi _ ih => exact (fold_closed hd (Nat.le_refl _) _ hi ih).2
end Go.Proofs.Ytchedkjlhjfadaa
namespace Go.Proofs.Ytchedkjlhjfadaa
open Go Go.Ab
/-- How many are so ahead of one. -/
def rk (p : Nat → Bool) (j : Nat) : Nat := ((List.range j).filter p).length
theorem rk_succ (p : Nat → Bool) (j : Nat) : rk p (j + 1) = rk p j + if p j = true then 1 else 0 := by
  unfold rk
  rw [List.range_succ, List.filter_append, List.length_append]
  by_cases h : p j = true <;> simp [h]
theorem rk_le (p : Nat → Bool) (j : Nat) : rk p j ≤ j := by
  unfold rk
  exact Nat.le_trans (List.length_filter_le _ _) (by simp)
theorem rk_mono (p : Nat → Bool) {i j : Nat} (h : i ≤ j) : rk p i ≤ rk p j := by
  induction j with
  | zero => rw [show i = 0 by omega]; exact Nat.le_refl _
  | succ j ih =>
    by_cases e : i = j + 1
    · rw [e]; exact Nat.le_refl _
    · have := ih (by omega); rw [rk_succ]; omega
theorem rk_lt {p : Nat → Bool} {i j : Nat} (h : i < j) (hp : p i = true) : rk p i < rk p j := by
  have h1 := rk_mono p (show i + 1 ≤ j by omega)
  rw [rk_succ, if_pos hp] at h1
  omega
theorem filt_at {p : Nat → Bool} {j : Nat} (hp : p j = true) : ∀ {m : Nat}, j < m → ((List.range m).filter p)[rk p j]? = some j
  | 0, h => absurd h (Nat.not_lt_zero _)
  | m + 1, h => by
    rw [List.range_succ, List.filter_append]
    by_cases e : j = m
    · subst e
      have hl : ((List.range j).filter p).length = rk p j := rfl
      rw [List.getElem?_append_right (by rw [hl]; exact Nat.le_refl _), hl]
      simp [hp]
    · have hi := filt_at hp (m := m) (by omega)
      rw [List.getElem?_append_left ((List.getElem?_eq_some_iff.1 hi).1)]
      exact hi
theorem filt_get {p : Nat → Bool} : ∀ {m k : Nat}, k < rk p m → ∃ j, j < m ∧ p j = true ∧ rk p j = k
  | 0, k, h => absurd h (by simp [rk])
  | m + 1, k, h => by
    rw [rk_succ] at h
    by_cases e : k < rk p m
    · obtain ⟨j, h1, h2, h3⟩ := filt_get e
      exact ⟨j, by omega, h2, h3⟩
    · by_cases hp : p m = true
      · rw [if_pos hp] at h
        exact ⟨m, by omega, hp, by omega⟩
      · rw [if_neg hp] at h; omega
/-- A clause's new number. -/
def tau (n : Nat) (p : Nat → Bool) (x : Int) : Int := if x < n then x else ((n + rk p (x - n).toNat : Nat) : Int)
def tauS (n : Nat) (p : Nat → Bool) (s : Ps) : Ps := ⟨tau n p s.a, tau n p s.b, s.on⟩
theorem tau_step (n : Nat) (p : Nat → Bool) (i : Nat) : tau n p ((n + i : Nat) : Int) = ((n + rk p i : Nat) : Int) := by
  unfold tau
  rw [if_neg (by omega), show (((n + i : Nat) : Int) - n).toNat = i by omega]
theorem lkp_set (x y : Int) : ∀ (s : List (Int × Int)) (z : Int), lkp (setK s x y) z = if z = x then some y else lkp s z
  | [], z => by simp [setK, lkp]
  | q :: s, z => by
    unfold setK
    by_cases h : x = q.1
    · rw [if_pos h]
      unfold lkp
      rw [h]
      by_cases hz : z = q.1 <;> simp [hz]
    · rw [if_neg h]
      simp only [lkp]
      rw [lkp_set x y s z]
      by_cases hz : z = q.1
      · rw [if_pos hz, if_pos hz, if_neg (fun e => h (e.symm.trans hz))]
      · rw [if_neg hz, if_neg hz]
/-- What is used comes from what is used. -/
def Clo2 (n : Nat) (l : List Ps) (u : Int → Bool) : Prop := ∀ j, j < l.length → u ((n + j : Nat) : Int) = true → (0 ≤ (at0 l j).a ∧ (at0 l j).a < ((n + j : Nat) : Int) ∧ u (at0 l j).a = true) ∧ (0 ≤ (at0 l j).b ∧ (at0 l j).b < ((n + j : Nat) : Int) ∧ u (at0 l j).b = true)
def pU (n : Nat) (u : Int → Bool) (j : Nat) : Bool := u ((n + j : Nat) : Int)
def trimL (n : Nat) (l : List Ps) (u : Int → Bool) (m : Nat) : List Ps := ((List.range m).filter (pU n u)).map fun j => tauS n (pU n u) (at0 l j)
theorem trimL_len (n : Nat) (l : List Ps) (u : Int → Bool) (m : Nat) : (trimL n l u m).length = rk (pU n u) m := by unfold trimL rk; rw [List.length_map]
theorem place_tau {n : Nat} {u : Int → Bool} {to : List (Int × Int)} {c : Int} {i : Nat} (h : ∀ j, j < i → u ((n + j : Nat) : Int) = true → lkp to ((n + j : Nat) : Int) = some ((n + rk (pU n u) j : Nat) : Int)) (h0 : 0 ≤ c) (hc : c < ((n + i : Nat) : Int)) (hu : u c = true) : placeP n to c = tau n (pU n u) c := by
  unfold placeP tau
  by_cases hn : c < (n : Int)
  · rw [if_pos hn, if_pos hn]
  · rw [if_neg hn, if_neg hn]
    obtain ⟨j, hj⟩ : ∃ j : Nat, c = ((n + j : Nat) : Int) := ⟨(c - n).toNat, by omega⟩
    subst hj
    rw [h j (by omega) hu, show (((n + j : Nat) : Int) - n).toNat = j by omega]
    rfl
theorem trimR_eq {n : Nat} {l : List Ps} {u : Int → Bool} (hc : Clo2 n l u) : ∀ {rest : List Ps} {i : Nat} {to : List (Int × Int)}, i + rest.length = l.length → (∀ j, at0 rest j = at0 l (i + j)) → (∀ j, j < i → u ((n + j : Nat) : Int) = true → lkp to ((n + j : Nat) : Int) = some ((n + rk (pU n u) j : Nat) : Int)) → trimR n u rest i to (trimL n l u i) = trimL n l u l.length
  | [], i, to, hl, _, _ => by
    simp only [trimR]
    rw [show i = l.length by simpa using hl]
  | s :: rest, i, to, hl, hat, hto => by
    simp only [List.length_cons] at hl
    have hs : s = at0 l i := hat 0
    have hnx : ∀ j, at0 rest j = at0 l (i + 1 + j) := fun j => by rw [show i + 1 + j = i + (j + 1) by omega, ← hat (j + 1)]; rfl
    simp only [trimR]
    have hsucc : trimL n l u (i + 1) = trimL n l u i ++ if pU n u i = true then [tauS n (pU n u) (at0 l i)] else [] := by
      unfold trimL
      rw [List.range_succ, List.filter_append, List.map_append]
      by_cases h : pU n u i = true <;> simp [h]
    by_cases hu : u ((n + i : Nat) : Int) = true
    · rw [if_pos hu]
      obtain ⟨⟨a1, a2, a3⟩, ⟨b1, b2, b3⟩⟩ := hc i (by omega) hu
      have hpu : pU n u i = true := hu
      rw [trimL_len]
      have hto2 : ∀ j, j < i + 1 → u ((n + j : Nat) : Int) = true → lkp (setK to ((n + i : Nat) : Int) ((n + rk (pU n u) i : Nat) : Int)) ((n + j : Nat) : Int) = some ((n + rk (pU n u) j : Nat) : Int) := by
        intro j hj huj
        rw [lkp_set]
        by_cases e : j = i
        · subst e; rw [if_pos rfl]
        · rw [if_neg (by omega)]; exact hto j (by omega) huj
      rw [if_pos hpu] at hsucc
      rw [hs, place_tau (fun j hj => hto2 j (by omega)) a1 a2 a3, place_tau (fun j hj => hto2 j (by omega)) b1 b2 b3]
      have : trimL n l u i ++ [⟨tau n (pU n u) (at0 l i).a, tau n (pU n u) (at0 l i).b, (at0 l i).on⟩] = trimL n l u (i + 1) := hsucc.symm
      rw [this]
      exact trimR_eq hc (by omega) hnx hto2
    · rw [if_neg hu]
      rw [if_neg (show ¬ pU n u i = true from hu), List.append_nil] at hsucc
      rw [← hsucc]
      exact trimR_eq hc (by omega) hnx (fun j hj huj => hto j (by
        by_cases e : j = i
        · subst e; exact absurd huj hu
        · omega) huj)
theorem trim_all {n : Nat} {l : List Ps} {u : Int → Bool} (hc : Clo2 n l u) : trimR n u l 0 [] [] = trimL n l u l.length :=
  trimR_eq hc (rest := l) (i := 0) (to := []) (by simp) (fun j => by rw [Nat.zero_add]) (fun j h => absurd h (Nat.not_lt_zero _))
theorem trimL_at {n : Nat} {l : List Ps} {u : Int → Bool} {j m : Nat} (hj : j < m) (hu : pU n u j = true) : at0 (trimL n l u m) (rk (pU n u) j) = tauS n (pU n u) (at0 l j) := by
  have h := filt_at hu hj
  have e : (trimL n l u m)[rk (pU n u) j]? = some (tauS n (pU n u) (at0 l j)) := by
    unfold trimL
    rw [List.getElem?_map, h]; rfl
  show (trimL n l u m).getD (rk (pU n u) j) _ = _
  rw [List.getD_eq_getElem?_getD, e]
  rfl
/-- The clauses of what is left. -/
def outL (n : Nat) (fl out : List (List Int)) (u : Int → Bool) (m : Nat) : List (List Int) := ((List.range m).filter (pU n u)).map fun j => cl fl out ((n + j : Nat) : Int)
theorem outL_at {n : Nat} {fl out : List (List Int)} {u : Int → Bool} {j m : Nat} (hn : n = fl.length) (hj : j < m) (hu : pU n u j = true) : cl fl (outL n fl out u m) ((n + rk (pU n u) j : Nat) : Int) = cl fl out ((n + j : Nat) : Int) := by
  subst hn
  have h := filt_at hu hj
  have e : (outL fl.length fl out u m)[rk (pU fl.length u) j]? = some (cl fl out ((fl.length + j : Nat) : Int)) := by
    unfold outL
    rw [List.getElem?_map, h]; rfl
  conv => lhs; unfold cl
  rw [Int.toNat_natCast, getD_app2, List.getD_eq_getElem?_getD, e]
  rfl
theorem cl_low {fl out out' : List (List Int)} {x : Int} (h0 : 0 ≤ x) (h : x < (fl.length : Int)) : cl fl out x = cl fl out' x := by
  unfold cl
  rw [getD_app1 (by omega), getD_app1 (by omega)]
/-- A clause's number is another, the clause is the same. -/
theorem cl_tau {fl out : List (List Int)} {u : Int → Bool} {m : Nat} {x : Int} (h0 : 0 ≤ x) (h : x < ((fl.length + m : Nat) : Int)) (hu : u x = true) : cl fl (outL fl.length fl out u m) (tau fl.length (pU fl.length u) x) = cl fl out x := by
  by_cases hn : x < (fl.length : Int)
  · unfold tau
    rw [if_pos hn]
    exact cl_low h0 hn
  · obtain ⟨j, hj⟩ : ∃ j : Nat, x = ((fl.length + j : Nat) : Int) := ⟨(x - fl.length).toNat, by omega⟩
    subst hj
    rw [tau_step]
    exact outL_at rfl (by omega) hu
theorem tau_lt {n : Nat} {u : Int → Bool} {x : Int} {j : Nat} (h0 : 0 ≤ x) (h : x < ((n + j : Nat) : Int)) (hu : u x = true) : 0 ≤ tau n (pU n u) x ∧ tau n (pU n u) x < ((n + rk (pU n u) j : Nat) : Int) := by
  by_cases hn : x < (n : Int)
  · unfold tau
    rw [if_pos hn]
    omega
  · obtain ⟨i, hi⟩ : ∃ i : Nat, x = ((n + i : Nat) : Int) := ⟨(x - n).toNat, by omega⟩
    subst hi
    rw [tau_step]
    have := rk_lt (p := pU n u) (show i < j by omega) hu
    omega
/-- What is left is right, step by step. -/
theorem trim_ok {fl out : List (List Int)} {l : List Ps} {u : Int → Bool} (hk : Ok fl l out) (hc : Clo2 fl.length l u) : Ok fl (trimL fl.length l u l.length) (outL fl.length fl out u l.length) := by
  refine ⟨by unfold trimL outL; rw [List.length_map, List.length_map], fun k hkl => ?_⟩
  rw [trimL_len] at hkl
  obtain ⟨j, j1, j2, rfl⟩ := filt_get hkl
  obtain ⟨g1, g2, g3, g4, g5⟩ := hk.at_ j j1
  obtain ⟨⟨a1, a2, a3⟩, ⟨b1, b2, b3⟩⟩ := hc j j1 j2
  obtain ⟨ta1, ta2⟩ := tau_lt a1 a2 a3
  obtain ⟨tb1, tb2⟩ := tau_lt b1 b2 b3
  rw [trimL_at j1 j2]
  refine ⟨ta1, ta2, tb1, tb2, ?_⟩
  simp only [tauS]
  rw [cl_tau a1 (by omega) a3, cl_tau b1 (by omega) b3, outL_at rfl j1 j2]
  exact g5
end Go.Proofs.Ytchedkjlhjfadaa
namespace Go.Proofs.Ytchedkjlhjfadaa
open Go Go.Ab
theorem idxP_some {α : Type} {p : α → Bool} : ∀ {l : List α} {k : Nat}, idxP p l = some k ↔ (∃ x, l[k]? = some x ∧ p x = true) ∧ ∀ i, i < k → ∀ y, l[i]? = some y → p y = false
  | [], k => by simp [idxP]
  | x :: l, k => by
    unfold idxP
    by_cases h : p x = true
    · rw [if_pos h]
      constructor
      · intro e
        cases e
        exact ⟨⟨x, rfl, h⟩, fun i hi => absurd hi (Nat.not_lt_zero _)⟩
      · rintro ⟨⟨y, h1, h2⟩, h3⟩
        cases k with
        | zero => rfl
        | succ k => have := h3 0 (by omega) x rfl; rw [h] at this; cases this
    · rw [if_neg h]
      cases k with
      | zero =>
        constructor
        · intro e
          cases hi : idxP p l <;> simp [hi] at e
        · rintro ⟨⟨y, h1, h2⟩, _⟩
          simp at h1; subst h1; exact absurd h2 h
      | succ k =>
        have ih := idxP_some (p := p) (l := l) (k := k)
        have e : (idxP p l).map (· + 1) = some (k + 1) ↔ idxP p l = some k := by
          cases idxP p l <;> simp
        rw [e, ih]
        constructor
        · rintro ⟨⟨y, h1, h2⟩, h3⟩
          refine ⟨⟨y, by simpa using h1, h2⟩, fun i hi z hz => ?_⟩
          cases i with
          | zero => simp at hz; subst hz; simpa using h
          | succ i => exact h3 i (by omega) z (by simpa using hz)
        · rintro ⟨⟨y, h1, h2⟩, h3⟩
          exact ⟨⟨y, by simpa using h1, h2⟩, fun i hi z hz => h3 (i + 1) (by omega) z (by simpa using hz)⟩
theorem cl_at {fl out : List (List Int)} {i : Nat} (h : i < fl.length + out.length) : (fl ++ out)[i]? = some (cl fl out (i : Int)) := by
  unfold cl
  rw [Int.toNat_natCast, List.getD_eq_getElem?_getD, List.getElem?_eq_getElem (by rw [List.length_append]; exact h)]
  rfl
/-- The first empty clause. -/
def First (fl out : List (List Int)) (k : Nat) : Prop := k < fl.length + out.length ∧ cl fl out (k : Int) = [] ∧ ∀ i : Nat, i < k → cl fl out (i : Int) ≠ []
theorem first_iff {fl out : List (List Int)} {k : Nat} : idxN List.isEmpty (fl ++ out) = (k : Int) ↔ First fl out k := by
  have e : idxN List.isEmpty (fl ++ out) = (k : Int) ↔ idxP List.isEmpty (fl ++ out) = some k := by
    unfold idxN
    cases idxP List.isEmpty (fl ++ out) with
    | none => simp
    | some i => simp; omega
  rw [e, idxP_some]
  constructor
  · rintro ⟨⟨x, h1, h2⟩, h3⟩
    have hk : k < fl.length + out.length := by
      have := (List.getElem?_eq_some_iff.1 h1).1
      rwa [List.length_append] at this
    refine ⟨hk, ?_, fun i hi hc => ?_⟩
    · rw [cl_at hk] at h1
      cases h1
      simpa using h2
    · have := h3 i hi _ (cl_at (by omega))
      rw [hc] at this
      cases this
  · rintro ⟨h1, h2, h3⟩
    refine ⟨⟨_, cl_at h1, by rw [h2]; rfl⟩, fun i hi y hy => ?_⟩
    rw [cl_at (by omega)] at hy
    cases hy
    cases hh : cl fl out (i : Int) with
    | nil => exact absurd hh (h3 i hi)
    | cons => rfl
theorem empty_first {f : Fm} {l : List Ps} (h : emptyP f l ≠ -1) : rightP f = true ∧ ∃ (out : List (List Int)) (k : Nat), clsP f.l [] l = (out, true) ∧ emptyP f l = (k : Int) ∧ First f.l out k := by
  unfold emptyP at h ⊢
  split at h
  · rename_i hc
    refine ⟨hc.1, (clsP f.l [] l).1, ?_⟩
    rw [if_pos hc]
    have hlo := idxN_lo (p := List.isEmpty) (l := f.l ++ (clsP f.l [] l).1)
    obtain ⟨k, hk⟩ : ∃ k : Nat, idxN List.isEmpty (f.l ++ (clsP f.l [] l).1) = (k : Int) := ⟨(idxN List.isEmpty (f.l ++ (clsP f.l [] l).1)).toNat, by omega⟩
    exact ⟨k, by rw [← hc.2], hk, first_iff.1 hk⟩
  · exact absurd rfl h
theorem first_empty {f : Fm} {l : List Ps} {out : List (List Int)} {k : Nat} (hr : rightP f = true) (h1 : clsP f.l [] l = (out, true)) (h2 : First f.l out k) : emptyP f l = (k : Int) := by
  unfold emptyP
  rw [h1, if_pos ⟨hr, rfl⟩]
  exact first_iff.2 h2
theorem Ok.down {fl out : List (List Int)} {l : List Ps} (h : Ok fl l out) : Down fl.length l := fun i hi => ⟨(h.at_ i hi).2.1, (h.at_ i hi).2.2.2.1⟩
theorem reach_le {fl out : List (List Int)} {l : List Ps} (h : Ok fl l out) {e x : Int} (h0 : 0 ≤ e) (hr : Reach fl.length l e x) : 0 ≤ x ∧ x ≤ e := by
  induction hr with
  | base => omega
  | a hi _ ih => have := h.at_ _ hi; omega
  | b hi _ ih => have := h.at_ _ hi; omega
theorem inU_iff {f : Fm} {l : List Ps} {out : List (List Int)} (h : Ok f.l l out) (he : emptyP f l ≠ -1) {x : Int} : inU f l x = true ↔ Reach f.l.length l (emptyP f l) x := by
  unfold inU
  rw [if_neg he, decide_eq_true_eq, used_iff h.down]
theorem inU_clo {f : Fm} {l : List Ps} {out : List (List Int)} (h : Ok f.l l out) (he : emptyP f l ≠ -1) : Clo2 f.l.length l (inU f l) := by
  intro j hj hu
  have hr := (inU_iff h he).1 hu
  obtain ⟨g1, g2, g3, g4, _⟩ := h.at_ j hj
  exact ⟨⟨g1, g2, (inU_iff h he).2 (.a hj hr)⟩, ⟨g3, g4, (inU_iff h he).2 (.b hj hr)⟩⟩
/-- All that is known of what is trimmed. -/
theorem trim_law {f : Fm} {l : List Ps} (he : emptyP f l ≠ -1) :
    emptyP f (trimP f l) ≠ -1 ∧ (trimP f l).length ≤ l.length ∧ coreP f (trimP f l) = coreP f l ∧ (∀ k, k < (trimP f l).length → inU f (trimP f l) ((f.l.length + k : Nat) : Int) = true) ∧ (∃ out', clsP f.l [] (trimP f l) = (out', true)) := by
  obtain ⟨hr, out, k, hcl, hek, hf1, hf2, hf3⟩ := empty_first he
  have hok := cls_ok.1 hcl
  have hlen := hok.len
  have hclo := inU_clo hok he
  have hiff := fun {x} => inU_iff hok he (x := x)
  have htr : trimP f l = trimL f.l.length l (inU f l) l.length := trim_all hclo
  have hok' := trim_ok hok hclo
  have hcl' := cls_ok.2 hok'
  rw [htr]
  have hek0 : (0 : Int) ≤ emptyP f l := by omega
  have hue : inU f l (k : Int) = true := hiff.2 (by rw [hek]; exact .base)
  obtain ⟨k', hk'⟩ : ∃ k' : Nat, tau f.l.length (pU f.l.length (inU f l)) (k : Int) = (k' : Int) := by
    unfold tau
    split
    · exact ⟨k, rfl⟩
    · exact ⟨_, rfl⟩
  have htl := tau_lt (u := inU f l) (show (0 : Int) ≤ (k : Int) by omega) (show (k : Int) < ((f.l.length + l.length : Nat) : Int) by omega) hue
  have hol : (outL f.l.length f.l out (inU f l) l.length).length = rk (pU f.l.length (inU f l)) l.length := by rw [hok'.len, trimL_len]
  have hfirst : First f.l (outL f.l.length f.l out (inU f l) l.length) k' := by
    refine ⟨by omega, ?_, fun i hi hc => ?_⟩
    · rw [← hk', cl_tau (by omega) (by omega) hue]
      exact hf2
    · by_cases hin : i < f.l.length
      · rw [cl_low (out' := out) (by omega) (by omega)] at hc
        refine hf3 i ?_ hc
        by_cases hkn : (k : Int) < (f.l.length : Int)
        · unfold tau at hk'; rw [if_pos hkn] at hk'; omega
        · omega
      · by_cases hkn : (k : Int) < (f.l.length : Int)
        · unfold tau at hk'; rw [if_pos hkn] at hk'; omega
        · unfold tau at hk'
          rw [if_neg hkn] at hk'
          have hk2 : k' = f.l.length + rk (pU f.l.length (inU f l)) ((k : Int) - f.l.length).toNat := by omega
          obtain ⟨j, j1, j2, j3⟩ := filt_get (p := pU f.l.length (inU f l)) (m := ((k : Int) - f.l.length).toNat) (k := i - f.l.length) (by omega)
          have hi2 : (i : Int) = ((f.l.length + rk (pU f.l.length (inU f l)) j : Nat) : Int) := by omega
          rw [hi2, outL_at rfl (by omega) j2] at hc
          exact hf3 (f.l.length + j) (by omega) hc
  have he' := first_empty hr hcl' hfirst
  have he2 : emptyP f (trimL f.l.length l (inU f l) l.length) ≠ -1 := by omega
  have hiff' := fun {x} => inU_iff hok' he2 (x := x)
  rw [he'] at hiff'
  rw [hek] at hiff
  have hto : ∀ {x}, Reach f.l.length l (k : Int) x → Reach f.l.length (trimL f.l.length l (inU f l) l.length) (k' : Int) (tau f.l.length (pU f.l.length (inU f l)) x) := by
    intro x hx
    induction hx with
    | base => rw [hk']; exact .base
    | a hi hx ih =>
      rename_i i
      have hu : pU f.l.length (inU f l) i = true := hiff.2 hx
      rw [tau_step] at ih
      have h2 := Reach.a (by rw [trimL_len]; exact rk_lt hi hu) ih
      rw [trimL_at hi hu] at h2
      exact h2
    | b hi hx ih =>
      rename_i i
      have hu : pU f.l.length (inU f l) i = true := hiff.2 hx
      rw [tau_step] at ih
      have h2 := Reach.b (by rw [trimL_len]; exact rk_lt hi hu) ih
      rw [trimL_at hi hu] at h2
      exact h2
  have hfrom : ∀ {y}, Reach f.l.length (trimL f.l.length l (inU f l) l.length) (k' : Int) y → ∃ x, Reach f.l.length l (k : Int) x ∧ tau f.l.length (pU f.l.length (inU f l)) x = y := by
    have key : ∀ {i : Nat} {x : Int}, i < (trimL f.l.length l (inU f l) l.length).length → Reach f.l.length l (k : Int) x → tau f.l.length (pU f.l.length (inU f l)) x = ((f.l.length + i : Nat) : Int) → ∃ j, j < l.length ∧ Reach f.l.length l (k : Int) ((f.l.length + j : Nat) : Int) ∧ at0 (trimL f.l.length l (inU f l) l.length) i = tauS f.l.length (pU f.l.length (inU f l)) (at0 l j) := by
      intro i x hi hx ht
      have hle := reach_le hok (by omega) hx
      by_cases hn : x < (f.l.length : Int)
      · unfold tau at ht; rw [if_pos hn] at ht; omega
      · obtain ⟨j, hj⟩ : ∃ j : Nat, x = ((f.l.length + j : Nat) : Int) := ⟨(x - f.l.length).toNat, by omega⟩
        subst hj
        rw [tau_step] at ht
        have hji : i = rk (pU f.l.length (inU f l)) j := by omega
        subst hji
        exact ⟨j, by omega, hx, trimL_at (by omega) (hiff.2 hx)⟩
    intro y hy
    induction hy with
    | base => exact ⟨_, .base, hk'⟩
    | a hi _ ih =>
      obtain ⟨x, hx, ht⟩ := ih
      obtain ⟨j, j1, j2, j3⟩ := key hi hx ht
      rw [j3]
      exact ⟨_, .a j1 j2, rfl⟩
    | b hi _ ih =>
      obtain ⟨x, hx, ht⟩ := ih
      obtain ⟨j, j1, j2, j3⟩ := key hi hx ht
      rw [j3]
      exact ⟨_, .b j1 j2, rfl⟩
  refine ⟨he2, by rw [trimL_len]; exact rk_le _ _, ?_, fun i hi => ?_, _, hcl'⟩
  · unfold coreP pickU
    congr 1
    refine List.filter_congr fun i hi => ?_
    have hi := List.mem_range.1 hi
    have htau : tau f.l.length (pU f.l.length (inU f l)) (i : Int) = (i : Int) := by unfold tau; rw [if_pos (by omega)]
    apply Bool.eq_iff_iff.2
    rw [hiff', hiff]
    constructor
    · intro h
      obtain ⟨x, hx, ht⟩ := hfrom h
      have hle := reach_le hok (by omega) hx
      by_cases hn : x < (f.l.length : Int)
      · unfold tau at ht; rw [if_pos hn] at ht; rw [← ht]; exact hx
      · unfold tau at ht; rw [if_neg hn] at ht; omega
    · intro h
      have := hto h
      rwa [htau] at this
  · rw [trimL_len] at hi
    obtain ⟨j, j1, j2, rfl⟩ := filt_get hi
    have := hto (hiff.1 j2)
    rw [tau_step] at this
    exact hiff'.2 this
/-- Where all is used, all stays. -/
theorem trim_full {f : Fm} {l : List Ps} (he : emptyP f l ≠ -1) (h : ∀ k, k < l.length → inU f l ((f.l.length + k : Nat) : Int) = true) : (trimP f l).length = l.length := by
  obtain ⟨hr, out, k, hcl, _⟩ := empty_first he
  have hok := cls_ok.1 hcl
  have htr : trimP f l = trimL f.l.length l (inU f l) l.length := trim_all (inU_clo hok he)
  rw [htr, trimL_len]
  unfold rk
  have e : (List.range l.length).filter (pU f.l.length (inU f l)) = List.range l.length := List.filter_eq_self.2 (fun j hj => h j (List.mem_range.1 hj))
  rw [e, List.length_range]
end Go.Proofs.Ytchedkjlhjfadaa
