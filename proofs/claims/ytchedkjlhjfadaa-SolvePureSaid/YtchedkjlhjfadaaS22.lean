/- Pure literals: a formula with a model has one in which they are true. Conditions: none. -/
import Derived.Test.YtchedkjlhjfadaaS21
set_option linter.unusedSimpArgs false
set_option linter.unusedVariables false
namespace Go.Proofs.Ytchedkjlhjfadaa
open Go Go.Ab
theorem inF_iff {fl : List (List Int)} {x : Int} : inF fl x = true ↔ ∃ c, c ∈ fl ∧ x ∈ c := by
  unfold inF hasP
  simp
theorem mem_pureV {fl : List (List Int)} {v x : Int} : x ∈ pureV fl v → (x = v ∨ x = -v) ∧ inF fl x = true ∧ inF fl (-x) = false := by
  unfold pureV
  intro h
  split at h
  · rename_i h1
    simp only [List.mem_singleton] at h
    subst h
    exact ⟨.inl rfl, h1.1, by rw [show -x = 0 - x by omega]; exact h1.2⟩
  · split at h
    · rename_i h1
      simp only [List.mem_singleton] at h
      subst h
      exact ⟨.inr (by omega), h1.1, by rw [show -(0 - v) = v by omega]; exact h1.2⟩
    · cases h
theorem mem_pureL {fl : List (List Int)} {x : Int} : ∀ {n : Nat}, x ∈ pureL fl n → x ≠ 0 ∧ -(n : Int) ≤ x ∧ x ≤ n ∧ inF fl x = true ∧ inF fl (-x) = false
  | 0, h => by cases h
  | n + 1, h => by
    simp only [pureL, List.mem_append] at h
    rcases h with h | h
    · obtain ⟨h1, h2, h3, h4⟩ := mem_pureL h
      exact ⟨h1, by omega, by omega, h4⟩
    · obtain ⟨h1, h2⟩ := mem_pureV h
      exact ⟨by omega, by omega, by omega, h2⟩
/-- A model, with literals made true. -/
def flipM (p : List Int) (n : Nat) (m : List Bool) : List Bool := (List.range n).map fun (i : Nat) => if ((i : Int) + 1) ∈ p then true else if -((i : Int) + 1) ∈ p then false else (m[i]?).getD false
theorem flip_at {p : List Int} {n i : Nat} {m : List Bool} (h : i < n) : ((flipM p n m)[i]?).getD false = if ((i : Int) + 1) ∈ p then true else if -((i : Int) + 1) ∈ p then false else (m[i]?).getD false := by
  unfold flipM
  rw [List.getElem?_map, List.getElem?_range h]
  rfl
theorem flip_in {fl : List (List Int)} {n : Nat} {m : List Bool} {x : Int} (h : x ∈ pureL fl n) : litT (flipM (pureL fl n) n m) x = true := by
  obtain ⟨h0, h1, h2, h3, h4⟩ := mem_pureL h
  have hno : -x ∉ pureL fl n := fun hm => by
    obtain ⟨_, _, _, h5, _⟩ := mem_pureL hm
    rw [h4] at h5; cases h5
  unfold litT
  rw [flip_at (by omega)]
  by_cases hp : 0 < x
  · rw [if_pos (by rw [show ((x.natAbs - 1 : Nat) : Int) + 1 = x by omega]; exact h), decide_eq_true hp]; rfl
  · rw [if_neg (by rw [show ((x.natAbs - 1 : Nat) : Int) + 1 = -x by omega]; exact hno), if_pos (by rw [show -(((x.natAbs - 1 : Nat) : Int) + 1) = x by omega]; exact h), decide_eq_false hp]; rfl
theorem flip_out {fl : List (List Int)} {n : Nat} {m : List Bool} {x : Int} (h0 : x ≠ 0) (h1 : -(n : Int) ≤ x) (h2 : x ≤ n) (h3 : x ∉ pureL fl n) (h4 : -x ∉ pureL fl n) : litT (flipM (pureL fl n) n m) x = litT m x := by
  unfold litT
  rw [flip_at (by omega)]
  by_cases hp : 0 < x
  · rw [if_neg (by rw [show ((x.natAbs - 1 : Nat) : Int) + 1 = x by omega]; exact h3), if_neg (by rw [show -(((x.natAbs - 1 : Nat) : Int) + 1) = -x by omega]; exact h4)]
  · rw [if_neg (by rw [show ((x.natAbs - 1 : Nat) : Int) + 1 = -x by omega]; exact h4), if_neg (by rw [show -(((x.natAbs - 1 : Nat) : Int) + 1) = x by omega]; exact h3)]
theorem mem_ext {n : Nat} {fl : List (List Int)} {r : List (Int × Int)} {m : List Bool} : m ∈ Go.Proofs.Ytchedkjlhjfadaa.ext n fl r ↔ m.length = n ∧ fT m fl = true ∧ satR m r = true := by
  unfold Go.Proofs.Ytchedkjlhjfadaa.ext Mods
  rw [List.mem_filter, List.mem_filter, mem_allM]
  exact ⟨fun ⟨⟨a, b⟩, c⟩ => ⟨a, b, c⟩, fun ⟨a, b, c⟩ => ⟨⟨a, b⟩, c⟩⟩
theorem flip_sat {fl : List (List Int)} {n : Nat} (hr : RightL n fl) {m : List Bool} (h : fT m fl = true) : fT (flipM (pureL fl n) n m) fl = true := by
  unfold fT
  refine List.all_eq_true.2 fun c hc => ?_
  obtain ⟨y, hy, hl⟩ := clause_some h hc
  obtain ⟨h0, h1, h2⟩ := hr c hc y hy
  refine List.any_eq_true.2 ⟨y, hy, ?_⟩
  by_cases hp : y ∈ pureL fl n
  · exact flip_in hp
  · have hq : -y ∉ pureL fl n := fun hm => by
      obtain ⟨_, _, _, _, h5⟩ := mem_pureL hm
      rw [show - -y = y by omega] at h5
      rw [inF_iff.2 ⟨c, hc, hy⟩] at h5
      cases h5
    rw [flip_out h0 h1 h2 hp hq]
    exact hl
/-- A model leaves one with all the pure literals. -/
theorem pure_some {n : Nat} {fl : List (List Int)} (hr : RightL n fl) (h : Go.Proofs.Ytchedkjlhjfadaa.ext n fl [] ≠ []) : ∃ q, asm n [] (pureL fl n) = some q ∧ Go.Proofs.Ytchedkjlhjfadaa.ext n fl q ≠ [] := by
  obtain ⟨m, hm⟩ := List.exists_mem_of_ne_nil _ h
  obtain ⟨h1, h2, _⟩ := mem_ext.1 hm
  have hs := asm_sat (n := n) (m := flipM (pureL fl n) n m) (l := pureL fl n) (r := []) (fun x hx => by obtain ⟨a, b, c, _⟩ := mem_pureL hx; exact ⟨a, b, c⟩)
  have hall : (pureL fl n).all (litT (flipM (pureL fl n) n m)) = true := List.all_eq_true.2 fun x hx => flip_in hx
  rw [hall] at hs
  cases ha : asm n [] (pureL fl n) with
  | none => rw [ha] at hs; simp [satR] at hs
  | some q =>
    rw [ha] at hs
    refine ⟨q, rfl, List.ne_nil_of_mem (mem_ext.2 ⟨?_, flip_sat hr h2, ?_⟩)⟩
    · unfold flipM; simp
    · have : satR (flipM (pureL fl n) n m) [] = true := rfl
      rw [this] at hs
      exact hs.symm
theorem pure_is {n : Nat} {fl : List (List Int)} (hr : RightL n fl) {m : List Bool} {b : Bool} (h : FindR n fl (pureL fl n) m b) : b = decide (Go.Proofs.Ytchedkjlhjfadaa.ext n fl [] ≠ []) := by
  by_cases he : Go.Proofs.Ytchedkjlhjfadaa.ext n fl [] = []
  · rw [decide_eq_false (by simp [he])]
    rcases h with ⟨_, q, t, _, hq⟩ | ⟨h, _⟩
    · have hm : m ∈ Go.Proofs.Ytchedkjlhjfadaa.ext n fl q := by rw [hq]; simp
      obtain ⟨h1, h2, _⟩ := mem_ext.1 hm
      have : m ∈ Go.Proofs.Ytchedkjlhjfadaa.ext n fl [] := mem_ext.2 ⟨h1, h2, rfl⟩
      rw [he] at this
      cases this
    · exact h
  · rw [decide_eq_true he]
    obtain ⟨q, hq, hne⟩ := pure_some hr he
    rcases h with ⟨h, _⟩ | ⟨_, _, h⟩
    · exact h
    · exact absurd (h q hq) hne
theorem pure_fix {n : Nat} {fl : List (List Int)} (hr : RightL n fl) (h : Go.Proofs.Ytchedkjlhjfadaa.ext n fl [] ≠ []) {l : List Int} {b : Bool} (hf : FixR n fl (pureL fl n) l b) :
    b = true ∧ ∀ m b', FindR n fl (pureL fl n) m b' → m.length = n ∧ fT m fl = true ∧ ∀ x, x ∈ l → litT m x = true ∧ x ≠ 0 ∧ -(n : Int) ≤ x ∧ x ≤ n := by
  obtain ⟨q, hq, hne⟩ := pure_some hr h
  obtain ⟨tq, _⟩ := asm_tr hq trivial
  rcases hf with ⟨_, _, hf⟩ | ⟨hb, q', r', hq', hup, hall, rfl⟩
  · rcases hf with hf | ⟨q', r', hq', hup, c, x, hc, hlz⟩
    · rw [hq] at hf; cases hf
    · rw [hq] at hq'
      cases hq'
      have := (hup.ok hr tq).ext
      rw [ext_conflict hr hc hlz] at this
      exact absurd this.symm hne
  · refine ⟨hb, fun m b' hm => ?_⟩
    rw [hq] at hq'
    cases hq'
    have hok := hup.ok hr tq
    rcases hm with ⟨_, q2, t, hq2, ht⟩ | ⟨_, _, hq2⟩
    · rw [hq] at hq2
      cases hq2
      have hm : m ∈ Go.Proofs.Ytchedkjlhjfadaa.ext n fl r' := by rw [hok.ext, ht]; simp
      obtain ⟨h1, h2, h3⟩ := mem_ext.1 hm
      refine ⟨h1, h2, fun x hx => ?_⟩
      obtain ⟨g1, g2, g3⟩ := (mem_outN hok.inv).1 hx
      exact ⟨satR_true h3 x g1 g2, g1, by omega, by omega⟩
    · exact absurd (hq2 q hq) hne
end Go.Proofs.Ytchedkjlhjfadaa
