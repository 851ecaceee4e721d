/- Law 16: the core of what is trimmed; trimmed again. Conditions: none. -/
import Derived.Test.YtchedkjlhjfadaaQ9
set_option linter.unusedSimpArgs false
set_option linter.unusedVariables false
namespace Go.Proofs.Ytchedkjlhjfadaa
open Go Go.Ab
theorem idxP_some {α : Type} {p : α → Bool} : ∀ {l : List α} {k : Nat}, idxP p l = some k ↔ (∃ x, l[k]? = some x ∧ p x = true) ∧ ∀ i, i < k → ∀ y, l[i]? = some y → p y = false
  | [], k => by simp [idxP]
  | x :: l, k => by
    unfold idxP
    by_cases h : p x = true
    · rw [if_pos h]
      constructor
      · intro e
        cases e
        exact ⟨⟨x, rfl, h⟩, fun i hi => absurd hi (Nat.not_lt_zero _)⟩
      · rintro ⟨⟨y, h1, h2⟩, h3⟩
        cases k with
        | zero => rfl
        | succ k => have := h3 0 (by omega) x rfl; rw [h] at this; cases this
    · rw [if_neg h]
      cases k with
      | zero =>
        constructor
        · intro e
          cases hi : idxP p l <;> simp [hi] at e
        · rintro ⟨⟨y, h1, h2⟩, _⟩
          simp at h1; subst h1; exact absurd h2 h
      | succ k =>
        have ih := idxP_some (p := p) (l := l) (k := k)
        have e : (idxP p l).map (· + 1) = some (k + 1) ↔ idxP p l = some k := by
          cases idxP p l <;> simp
        rw [e, ih]
        constructor
        · rintro ⟨⟨y, h1, h2⟩, h3⟩
          refine ⟨⟨y, by simpa using h1, h2⟩, fun i hi z hz => ?_⟩
          cases i with
          | zero => simp at hz; subst hz; simpa using h
          | succ i => exact h3 i (by omega) z (by simpa using hz)
        · rintro ⟨⟨y, h1, h2⟩, h3⟩
          exact ⟨⟨y, by simpa using h1, h2⟩, fun i hi z hz => h3 (i + 1) (by omega) z (by simpa using hz)⟩
theorem cl_at {fl out : List (List Int)} {i : Nat} (h : i < fl.length + out.length) : (fl ++ out)[i]? = some (cl fl out (i : Int)) := by
  unfold cl
  rw [Int.toNat_natCast, List.getD_eq_getElem?_getD, List.getElem?_eq_getElem (by rw [List.length_append]; exact h)]
  rfl
/-- The first empty clause. -/
def First (fl out : List (List Int)) (k : Nat) : Prop := k < fl.length + out.length ∧ cl fl out (k : Int) = [] ∧ ∀ i : Nat, i < k → cl fl out (i : Int) ≠ []
theorem first_iff {fl out : List (List Int)} {k : Nat} : idxN List.isEmpty (fl ++ out) = (k : Int) ↔ First fl out k := by
  have e : idxN List.isEmpty (fl ++ out) = (k : Int) ↔ idxP List.isEmpty (fl ++ out) = some k := by
    unfold idxN
    cases idxP List.isEmpty (fl ++ out) with
    | none => simp
    | some i => simp; omega
  rw [e, idxP_some]
  constructor
  · rintro ⟨⟨x, h1, h2⟩, h3⟩
    have hk : k < fl.length + out.length := by
      have := (List.getElem?_eq_some_iff.1 h1).1
      rwa [List.length_append] at this
    refine ⟨hk, ?_, fun i hi hc => ?_⟩
    · rw [cl_at hk] at h1
      cases h1
      simpa using h2
    · have := h3 i hi _ (cl_at (by omega))
      rw [hc] at this
      cases this
  · rintro ⟨h1, h2, h3⟩
    refine ⟨⟨_, cl_at h1, by rw [h2]; rfl⟩, fun i hi y hy => ?_⟩
    rw [cl_at (by omega)] at hy
    cases hy
    cases hh : cl fl out (i : Int) with
    | nil => exact absurd hh (h3 i hi)
    | cons => rfl
theorem empty_first {f : Fm} {l : List Ps} (h : emptyP f l ≠ -1) : rightP f = true ∧ ∃ (out : List (List Int)) (k : Nat), clsP f.l [] l = (out, true) ∧ emptyP f l = (k : Int) ∧ First f.l out k := by
  unfold emptyP at h ⊢
  split at h
  · rename_i hc
    refine ⟨hc.1, (clsP f.l [] l).1, ?_⟩
    rw [if_pos hc]
    have hlo := idxN_lo (p := List.isEmpty) (l := f.l ++ (clsP f.l [] l).1)
    obtain ⟨k, hk⟩ : ∃ k : Nat, idxN List.isEmpty (f.l ++ (clsP f.l [] l).1) = (k : Int) := ⟨(idxN List.isEmpty (f.l ++ (clsP f.l [] l).1)).toNat, by omega⟩
    exact ⟨k, by rw [← hc.2], hk, first_iff.1 hk⟩
  · exact absurd rfl h
theorem first_empty {f : Fm} {l : List Ps} {out : List (List Int)} {k : Nat} (hr : rightP f = true) (h1 : clsP f.l [] l = (out, true)) (h2 : First f.l out k) : emptyP f l = (k : Int) := by
  unfold emptyP
  rw [h1, if_pos ⟨hr, rfl⟩]
  exact first_iff.2 h2
theorem Ok.down {fl out : List (List Int)} {l : List Ps} (h : Ok fl l out) : Down fl.length l := fun i hi => ⟨(h.at_ i hi).2.1, (h.at_ i hi).2.2.2.1⟩
theorem reach_le {fl out : List (List Int)} {l : List Ps} (h : Ok fl l out) {e x : Int} (h0 : 0 ≤ e) (hr : Reach fl.length l e x) : 0 ≤ x ∧ x ≤ e := by
  induction hr with
  | base => omega
  | a hi _ ih => have := h.at_ _ hi; omega
  | b hi _ ih => have := h.at_ _ hi; omega
theorem inU_iff {f : Fm} {l : List Ps} {out : List (List Int)} (h : Ok f.l l out) (he : emptyP f l ≠ -1) {x : Int} : inU f l x = true ↔ Reach f.l.length l (emptyP f l) x := by
  unfold inU
  rw [if_neg he, decide_eq_true_eq, used_iff h.down]
theorem inU_clo {f : Fm} {l : List Ps} {out : List (List Int)} (h : Ok f.l l out) (he : emptyP f l ≠ -1) : Clo2 f.l.length l (inU f l) := by
  intro j hj hu
  have hr := (inU_iff h he).1 hu
  obtain ⟨g1, g2, g3, g4, _⟩ := h.at_ j hj
  exact ⟨⟨g1, g2, (inU_iff h he).2 (.a hj hr)⟩, ⟨g3, g4, (inU_iff h he).2 (.b hj hr)⟩⟩
/-- All that is known of what is trimmed. -/
theorem trim_law {f : Fm} {l : List Ps} (he : emptyP f l ≠ -1) :
    emptyP f (trimP f l) ≠ -1 ∧ (trimP f l).length ≤ l.length ∧ coreP f (trimP f l) = coreP f l ∧ (∀ k, k < (trimP f l).length → inU f (trimP f l) ((f.l.length + k : Nat) : Int) = true) ∧ (∃ out', clsP f.l [] (trimP f l) = (out', true)) := by
  obtain ⟨hr, out, k, hcl, hek, hf1, hf2, hf3⟩ := empty_first he
  have hok := cls_ok.1 hcl
  have hlen := hok.len
  have hclo := inU_clo hok he
  have hiff := fun {x} => inU_iff hok he (x := x)
  have htr : trimP f l = trimL f.l.length l (inU f l) l.length := trim_all hclo
  have hok' := trim_ok hok hclo
  have hcl' := cls_ok.2 hok'
  rw [htr]
  have hek0 : (0 : Int) ≤ emptyP f l := by omega
  have hue : inU f l (k : Int) = true := hiff.2 (by rw [hek]; exact .base)
  obtain ⟨k', hk'⟩ : ∃ k' : Nat, tau f.l.length (pU f.l.length (inU f l)) (k : Int) = (k' : Int) := by
    unfold tau
    split
    · exact ⟨k, rfl⟩
    · exact ⟨_, rfl⟩
  have htl := tau_lt (u := inU f l) (show (0 : Int) ≤ (k : Int) by omega) (show (k : Int) < ((f.l.length + l.length : Nat) : Int) by omega) hue
  have hol : (outL f.l.length f.l out (inU f l) l.length).length = rk (pU f.l.length (inU f l)) l.length := by rw [hok'.len, trimL_len]
  have hfirst : First f.l (outL f.l.length f.l out (inU f l) l.length) k' := by
    refine ⟨by omega, ?_, fun i hi hc => ?_⟩
    · rw [← hk', cl_tau (by omega) (by omega) hue]
      exact hf2
    · by_cases hin : i < f.l.length
      · rw [cl_low (out' := out) (by omega) (by omega)] at hc
        refine hf3 i ?_ hc
        by_cases hkn : (k : Int) < (f.l.length : Int)
        · unfold tau at hk'; rw [if_pos hkn] at hk'; omega
        · omega
      · by_cases hkn : (k : Int) < (f.l.length : Int)
        · unfold tau at hk'; rw [if_pos hkn] at hk'; omega
        · unfold tau at hk'
          rw [if_neg hkn] at hk'
          have hk2 : k' = f.l.length + rk (pU f.l.length (inU f l)) ((k : Int) - f.l.length).toNat := by omega
          obtain ⟨j, j1, j2, j3⟩ := filt_get (p := pU f.l.length (inU f l)) (m := ((k : Int) - f.l.length).toNat) (k := i - f.l.length) (by omega)
          have hi2 : (i : Int) = ((f.l.length + rk (pU f.l.length (inU f l)) j : Nat) : Int) := by omega
          rw [hi2, outL_at rfl (by omega) j2] at hc
          exact hf3 (f.l.length + j) (by omega) hc
  have he' := first_empty hr hcl' hfirst
  have he2 : emptyP f (trimL f.l.length l (inU f l) l.length) ≠ -1 := by omega
  have hiff' := fun {x} => inU_iff hok' he2 (x := x)
  rw [he'] at hiff'
  rw [hek] at hiff
  have hto : ∀ {x}, Reach f.l.length l (k : Int) x → Reach f.l.length (trimL f.l.length l (inU f l) l.length) (k' : Int) (tau f.l.length (pU f.l.length (inU f l)) x) := by
    intro x hx
    induction hx with
    | base => rw [hk']; exact .base
    | a hi hx ih =>
      rename_i i
      have hu : pU f.l.length (inU f l) i = true := hiff.2 hx
      rw [tau_step] at ih
      have h2 := Reach.a (by rw [trimL_len]; exact rk_lt hi hu) ih
      rw [trimL_at hi hu] at h2
      exact h2
    | b hi hx ih =>
      rename_i i
      have hu : pU f.l.length (inU f l) i = true := hiff.2 hx
      rw [tau_step] at ih
      have h2 := Reach.b (by rw [trimL_len]; exact rk_lt hi hu) ih
      rw [trimL_at hi hu] at h2
      exact h2
  have hfrom : ∀ {y}, Reach f.l.length (trimL f.l.length l (inU f l) l.length) (k' : Int) y → ∃ x, Reach f.l.length l (k : Int) x ∧ tau f.l.length (pU f.l.length (inU f l)) x = y := by
    have key : ∀ {i : Nat} {x : Int}, i < (trimL f.l.length l (inU f l) l.length).length → Reach f.l.length l (k : Int) x → tau f.l.length (pU f.l.length (inU f l)) x = ((f.l.length + i : Nat) : Int) → ∃ j, j < l.length ∧ Reach f.l.length l (k : Int) ((f.l.length + j : Nat) : Int) ∧ at0 (trimL f.l.length l (inU f l) l.length) i = tauS f.l.length (pU f.l.length (inU f l)) (at0 l j) := by
      intro i x hi hx ht
      have hle := reach_le hok (by omega) hx
      by_cases hn : x < (f.l.length : Int)
      · unfold tau at ht; rw [if_pos hn] at ht; omega
      · obtain ⟨j, hj⟩ : ∃ j : Nat, x = ((f.l.length + j : Nat) : Int) := ⟨(x - f.l.length).toNat, by omega⟩
        subst hj
        rw [tau_step] at ht
        have hji : i = rk (pU f.l.length (inU f l)) j := by omega
        subst hji
        exact ⟨j, by omega, hx, trimL_at (by omega) (hiff.2 hx)⟩
    intro y hy
    induction hy with
    | base => exact ⟨_, .base, hk'⟩
    | a hi _ ih =>
      obtain ⟨x, hx, ht⟩ := ih
      obtain ⟨j, j1, j2, j3⟩ := key hi hx ht
      rw [j3]
      exact ⟨_, .a j1 j2, rfl⟩
    | b hi _ ih =>
      obtain ⟨x, hx, ht⟩ := ih
      obtain ⟨j, j1, j2, j3⟩ := key hi hx ht
      rw [j3]
      exact ⟨_, .b j1 j2, rfl⟩
  refine ⟨he2, by rw [trimL_len]; exact rk_le _ _, ?_, fun i hi => ?_, _, hcl'⟩
  · unfold coreP pickU
    congr 1
    refine List.filter_congr fun i hi => ?_
    have hi := List.mem_range.1 hi
    have htau : tau f.l.length (pU f.l.length (inU f l)) (i : Int) = (i : Int) := by unfold tau; rw [if_pos (by omega)]
    apply Bool.eq_iff_iff.2
    rw [hiff', hiff]
    constructor
    · intro h
      obtain ⟨x, hx, ht⟩ := hfrom h
      have hle := reach_le hok (by omega) hx
      by_cases hn : x < (f.l.length : Int)
      · unfold tau at ht; rw [if_pos hn] at ht; rw [← ht]; exact hx
      · unfold tau at ht; rw [if_neg hn] at ht; omega
    · intro h
      have := hto h
      rwa [htau] at this
  · rw [trimL_len] at hi
    obtain ⟨j, j1, j2, rfl⟩ := filt_get hi
    have := hto (hiff.1 j2)
    rw [tau_step] at this
    exact hiff'.2 this
/-- Where all is used, all stays. -/
theorem trim_full {f : Fm} {l : List Ps} (he : emptyP f l ≠ -1) (h : ∀ k, k < l.length → inU f l ((f.l.length + k : Nat) : Int) = true) : (trimP f l).length = l.length := by
  obtain ⟨hr, out, k, hcl, _⟩ := empty_first he
  have hok := cls_ok.1 hcl
  have htr : trimP f l = trimL f.l.length l (inU f l) l.length := trim_all (inU_clo hok he)
  rw [htr, trimL_len]
  unfold rk
  have e : (List.range l.length).filter (pU f.l.length (inU f l)) = List.range l.length := List.filter_eq_self.2 (fun j hj => h j (List.mem_range.1 hj))
  rw [e, List.length_range]
end Go.Proofs.Ytchedkjlhjfadaa
