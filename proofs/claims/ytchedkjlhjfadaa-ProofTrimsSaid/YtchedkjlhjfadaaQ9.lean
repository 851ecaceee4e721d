/- Law 16: a proof that is trimmed is one, with the same core. Conditions: none. -/
import Derived.Test.YtchedkjlhjfadaaQ8
set_option linter.unusedSimpArgs false
set_option linter.unusedVariables false
namespace Go.Proofs.Ytchedkjlhjfadaa
open Go Go.Ab
/-- How many are so ahead of one. -/
def rk (p : Nat → Bool) (j : Nat) : Nat := ((List.range j).filter p).length
theorem rk_succ (p : Nat → Bool) (j : Nat) : rk p (j + 1) = rk p j + if p j = true then 1 else 0 := by
  unfold rk
  rw [List.range_succ, List.filter_append, List.length_append]
  by_cases h : p j = true <;> simp [h]
theorem rk_le (p : Nat → Bool) (j : Nat) : rk p j ≤ j := by
  unfold rk
  exact Nat.le_trans (List.length_filter_le _ _) (by simp)
theorem rk_mono (p : Nat → Bool) {i j : Nat} (h : i ≤ j) : rk p i ≤ rk p j := by
  induction j with
  | zero => rw [show i = 0 by omega]; exact Nat.le_refl _
  | succ j ih =>
    by_cases e : i = j + 1
    · rw [e]; exact Nat.le_refl _
    · have := ih (by omega); rw [rk_succ]; omega
theorem rk_lt {p : Nat → Bool} {i j : Nat} (h : i < j) (hp : p i = true) : rk p i < rk p j := by
  have h1 := rk_mono p (show i + 1 ≤ j by omega)
  rw [rk_succ, if_pos hp] at h1
  omega
theorem filt_at {p : Nat → Bool} {j : Nat} (hp : p j = true) : ∀ {m : Nat}, j < m → ((List.range m).filter p)[rk p j]? = some j
  | 0, h => absurd h (Nat.not_lt_zero _)
  | m + 1, h => by
    rw [List.range_succ, List.filter_append]
    by_cases e : j = m
    · subst e
      have hl : ((List.range j).filter p).length = rk p j := rfl
      rw [List.getElem?_append_right (by rw [hl]; exact Nat.le_refl _), hl]
      simp [hp]
    · have hi := filt_at hp (m := m) (by omega)
      rw [List.getElem?_append_left ((List.getElem?_eq_some_iff.1 hi).1)]
      exact hi
theorem filt_get {p : Nat → Bool} : ∀ {m k : Nat}, k < rk p m → ∃ j, j < m ∧ p j = true ∧ rk p j = k
  | 0, k, h => absurd h (by simp [rk])
  | m + 1, k, h => by
    rw [rk_succ] at h
    by_cases e : k < rk p m
    · obtain ⟨j, h1, h2, h3⟩ := filt_get e
      exact ⟨j, by omega, h2, h3⟩
    · by_cases hp : p m = true
      · rw [if_pos hp] at h
        exact ⟨m, by omega, hp, by omega⟩
      · rw [if_neg hp] at h; omega
/-- A clause's new number. -/
def tau (n : Nat) (p : Nat → Bool) (x : Int) : Int := if x < n then x else ((n + rk p (x - n).toNat : Nat) : Int)
def tauS (n : Nat) (p : Nat → Bool) (s : Ps) : Ps := ⟨tau n p s.a, tau n p s.b, s.on⟩
theorem tau_step (n : Nat) (p : Nat → Bool) (i : Nat) : tau n p ((n + i : Nat) : Int) = ((n + rk p i : Nat) : Int) := by
  unfold tau
  rw [if_neg (by omega), show (((n + i : Nat) : Int) - n).toNat = i by omega]
theorem lkp_set (x y : Int) : ∀ (s : List (Int × Int)) (z : Int), lkp (setK s x y) z = if z = x then some y else lkp s z
  | [], z => by simp [setK, lkp]
  | q :: s, z => by
    unfold setK
    by_cases h : x = q.1
    · rw [if_pos h]
      unfold lkp
      rw [h]
      by_cases hz : z = q.1 <;> simp [hz]
    · rw [if_neg h]
      simp only [lkp]
      rw [lkp_set x y s z]
      by_cases hz : z = q.1
      · rw [if_pos hz, if_pos hz, if_neg (fun e => h (e.symm.trans hz))]
      · rw [if_neg hz, if_neg hz]
/-- What is used comes from what is used. -/
def Clo2 (n : Nat) (l : List Ps) (u : Int → Bool) : Prop := ∀ j, j < l.length → u ((n + j : Nat) : Int) = true → (0 ≤ (at0 l j).a ∧ (at0 l j).a < ((n + j : Nat) : Int) ∧ u (at0 l j).a = true) ∧ (0 ≤ (at0 l j).b ∧ (at0 l j).b < ((n + j : Nat) : Int) ∧ u (at0 l j).b = true)
def pU (n : Nat) (u : Int → Bool) (j : Nat) : Bool := u ((n + j : Nat) : Int)
def trimL (n : Nat) (l : List Ps) (u : Int → Bool) (m : Nat) : List Ps := ((List.range m).filter (pU n u)).map fun j => tauS n (pU n u) (at0 l j)
theorem trimL_len (n : Nat) (l : List Ps) (u : Int → Bool) (m : Nat) : (trimL n l u m).length = rk (pU n u) m := by unfold trimL rk; rw [List.length_map]
theorem place_tau {n : Nat} {u : Int → Bool} {to : List (Int × Int)} {c : Int} {i : Nat} (h : ∀ j, j < i → u ((n + j : Nat) : Int) = true → lkp to ((n + j : Nat) : Int) = some ((n + rk (pU n u) j : Nat) : Int)) (h0 : 0 ≤ c) (hc : c < ((n + i : Nat) : Int)) (hu : u c = true) : placeP n to c = tau n (pU n u) c := by
  unfold placeP tau
  by_cases hn : c < (n : Int)
  · rw [if_pos hn, if_pos hn]
  · rw [if_neg hn, if_neg hn]
    obtain ⟨j, hj⟩ : ∃ j : Nat, c = ((n + j : Nat) : Int) := ⟨(c - n).toNat, by omega⟩
    subst hj
    rw [h j (by omega) hu, show (((n + j : Nat) : Int) - n).toNat = j by omega]
    rfl
theorem trimR_eq {n : Nat} {l : List Ps} {u : Int → Bool} (hc : Clo2 n l u) : ∀ {rest : List Ps} {i : Nat} {to : List (Int × Int)}, i + rest.length = l.length → (∀ j, at0 rest j = at0 l (i + j)) → (∀ j, j < i → u ((n + j : Nat) : Int) = true → lkp to ((n + j : Nat) : Int) = some ((n + rk (pU n u) j : Nat) : Int)) → trimR n u rest i to (trimL n l u i) = trimL n l u l.length
  | [], i, to, hl, _, _ => by
    simp only [trimR]
    rw [show i = l.length by simpa using hl]
  | s :: rest, i, to, hl, hat, hto => by
    simp only [List.length_cons] at hl
    have hs : s = at0 l i := hat 0
    have hnx : ∀ j, at0 rest j = at0 l (i + 1 + j) := fun j => by rw [show i + 1 + j = i + (j + 1) by omega, ← hat (j + 1)]; rfl
    simp only [trimR]
    have hsucc : trimL n l u (i + 1) = trimL n l u i ++ if pU n u i = true then [tauS n (pU n u) (at0 l i)] else [] := by
      unfold trimL
      rw [List.range_succ, List.filter_append, List.map_append]
      by_cases h : pU n u i = true <;> simp [h]
    by_cases hu : u ((n + i : Nat) : Int) = true
    · rw [if_pos hu]
      obtain ⟨⟨a1, a2, a3⟩, ⟨b1, b2, b3⟩⟩ := hc i (by omega) hu
      have hpu : pU n u i = true := hu
      rw [trimL_len]
      have hto2 : ∀ j, j < i + 1 → u ((n + j : Nat) : Int) = true → lkp (setK to ((n + i : Nat) : Int) ((n + rk (pU n u) i : Nat) : Int)) ((n + j : Nat) : Int) = some ((n + rk (pU n u) j : Nat) : Int) := by
        intro j hj huj
        rw [lkp_set]
        by_cases e : j = i
        · subst e; rw [if_pos rfl]
        · rw [if_neg (by omega)]; exact hto j (by omega) huj
      rw [if_pos hpu] at hsucc
      rw [hs, place_tau (fun j hj => hto2 j (by omega)) a1 a2 a3, place_tau (fun j hj => hto2 j (by omega)) b1 b2 b3]
      have : trimL n l u i ++ [⟨tau n (pU n u) (at0 l i).a, tau n (pU n u) (at0 l i).b, (at0 l i).on⟩] = trimL n l u (i + 1) := hsucc.symm
      rw [this]
      exact trimR_eq hc (by omega) hnx hto2
    · rw [if_neg hu]
      rw [if_neg (show ¬ pU n u i = true from hu), List.append_nil] at hsucc
      rw [← hsucc]
      exact trimR_eq hc (by omega) hnx (fun j hj huj => hto j (by
        by_cases e : j = i
        · subst e; exact absurd huj hu
        · omega) huj)
theorem trim_all {n : Nat} {l : List Ps} {u : Int → Bool} (hc : Clo2 n l u) : trimR n u l 0 [] [] = trimL n l u l.length :=
  trimR_eq hc (rest := l) (i := 0) (to := []) (by simp) (fun j => by rw [Nat.zero_add]) (fun j h => absurd h (Nat.not_lt_zero _))
theorem trimL_at {n : Nat} {l : List Ps} {u : Int → Bool} {j m : Nat} (hj : j < m) (hu : pU n u j = true) : at0 (trimL n l u m) (rk (pU n u) j) = tauS n (pU n u) (at0 l j) := by
  have h := filt_at hu hj
  have e : (trimL n l u m)[rk (pU n u) j]? = some (tauS n (pU n u) (at0 l j)) := by
    unfold trimL
    rw [List.getElem?_map, h]; rfl
  show (trimL n l u m).getD (rk (pU n u) j) _ = _
  rw [List.getD_eq_getElem?_getD, e]
  rfl
/-- The clauses of what is left. -/
def outL (n : Nat) (fl out : List (List Int)) (u : Int → Bool) (m : Nat) : List (List Int) := ((List.range m).filter (pU n u)).map fun j => cl fl out ((n + j : Nat) : Int)
theorem outL_at {n : Nat} {fl out : List (List Int)} {u : Int → Bool} {j m : Nat} (hn : n = fl.length) (hj : j < m) (hu : pU n u j = true) : cl fl (outL n fl out u m) ((n + rk (pU n u) j : Nat) : Int) = cl fl out ((n + j : Nat) : Int) := by
  subst hn
  have h := filt_at hu hj
  have e : (outL fl.length fl out u m)[rk (pU fl.length u) j]? = some (cl fl out ((fl.length + j : Nat) : Int)) := by
    unfold outL
    rw [List.getElem?_map, h]; rfl
  conv => lhs; unfold cl
  rw [Int.toNat_natCast, getD_app2, List.getD_eq_getElem?_getD, e]
  rfl
theorem cl_low {fl out out' : List (List Int)} {x : Int} (h0 : 0 ≤ x) (h : x < (fl.length : Int)) : cl fl out x = cl fl out' x := by
  unfold cl
  rw [getD_app1 (by omega), getD_app1 (by omega)]
/-- A clause's number is another, the clause is the same. -/
theorem cl_tau {fl out : List (List Int)} {u : Int → Bool} {m : Nat} {x : Int} (h0 : 0 ≤ x) (h : x < ((fl.length + m : Nat) : Int)) (hu : u x = true) : cl fl (outL fl.length fl out u m) (tau fl.length (pU fl.length u) x) = cl fl out x := by
  by_cases hn : x < (fl.length : Int)
  · unfold tau
    rw [if_pos hn]
    exact cl_low h0 hn
  · obtain ⟨j, hj⟩ : ∃ j : Nat, x = ((fl.length + j : Nat) : Int) := ⟨(x - fl.length).toNat, by omega⟩
    subst hj
    rw [tau_step]
    exact outL_at rfl (by omega) hu
theorem tau_lt {n : Nat} {u : Int → Bool} {x : Int} {j : Nat} (h0 : 0 ≤ x) (h : x < ((n + j : Nat) : Int)) (hu : u x = true) : 0 ≤ tau n (pU n u) x ∧ tau n (pU n u) x < ((n + rk (pU n u) j : Nat) : Int) := by
  by_cases hn : x < (n : Int)
  · unfold tau
    rw [if_pos hn]
    omega
  · obtain ⟨i, hi⟩ : ∃ i : Nat, x = ((n + i : Nat) : Int) := ⟨(x - n).toNat, by omega⟩
    subst hi
    rw [tau_step]
    have := rk_lt (p := pU n u) (show i < j by omega) hu
    omega
/-- What is left is right, step by step. -/
theorem trim_ok {fl out : List (List Int)} {l : List Ps} {u : Int → Bool} (hk : Ok fl l out) (hc : Clo2 fl.length l u) : Ok fl (trimL fl.length l u l.length) (outL fl.length fl out u l.length) := by
  refine ⟨by unfold trimL outL; rw [List.length_map, List.length_map], fun k hkl => ?_⟩
  rw [trimL_len] at hkl
  obtain ⟨j, j1, j2, rfl⟩ := filt_get hkl
  obtain ⟨g1, g2, g3, g4, g5⟩ := hk.at_ j j1
  obtain ⟨⟨a1, a2, a3⟩, ⟨b1, b2, b3⟩⟩ := hc j j1 j2
  obtain ⟨ta1, ta2⟩ := tau_lt a1 a2 a3
  obtain ⟨tb1, tb2⟩ := tau_lt b1 b2 b3
  rw [trimL_at j1 j2]
  refine ⟨ta1, ta2, tb1, tb2, ?_⟩
  simp only [tauS]
  rw [cl_tau a1 (by omega) a3, cl_tau b1 (by omega) b3, outL_at rfl j1 j2]
  exact g5
end Go.Proofs.Ytchedkjlhjfadaa
