/- The document's clauses in order. Conditions: none. -/
import Derived.Test.YtchedkjlhjfadaaS6
import Derived.Test.YtchedkjlhjfadaaCB
set_option linter.unusedSimpArgs false
set_option linter.unusedVariables false
namespace Go.Proofs.Ytchedkjlhjfadaa
open Go Go.Ab
theorem ltI_trans {x y z : Int} (h : ltI x y = true) (h2 : ltI y z = true) : ltI x z = true := by
  refine ltI_total (fun e => ?_) (leI_trans (ltI_asym h) (ltI_asym h2))
  subst e
  rw [ltI_asym h] at h2
  cases h2
theorem mem_insD {x z : Int} {l : List Int} : z ∈ insD x l ↔ z = x ∨ z ∈ l := by
  have h := tw_dw (fun y => ltI y x) l
  unfold insD
  split
  · simp [or_comm]
  · rename_i y r hd
    rw [hd] at h
    split
    · rename_i e
      subst e
      constructor
      · exact .inr
      · rintro (rfl | h2)
        · rw [h]; simp
        · exact h2
    · conv => rhs; rw [h]
      simp only [List.mem_append, List.mem_cons]
      constructor
      · rintro (a | a | a | a) <;> simp [a]
      · rintro (a | a | a | a) <;> simp [a]
theorem insD_strict {x : Int} {l : List Int} (hl : l.Pairwise fun a b => ltI a b = true) : (insD x l).Pairwise fun a b => ltI a b = true := by
  have h := tw_dw (fun y => ltI y x) l
  have ht : ∀ y, y ∈ l.takeWhile (fun y => ltI y x) → ltI y x = true := fun y hy => tw_all (fun y => ltI y x) hy
  unfold insD
  split
  · rename_i hd
    rw [hd, List.append_nil] at h
    rw [← h] at ht
    exact List.pairwise_append.2 ⟨hl, List.pairwise_singleton _ _, fun a ha b hb => by simp only [List.mem_singleton] at hb; subst hb; exact ht a ha⟩
  · rename_i y r hd
    have hy : ltI y x = false := dw_head (fun y => ltI y x) hd
    rw [hd] at h
    split
    · exact hl
    · rename_i e
      rw [h] at hl
      obtain ⟨p1, p2, p3⟩ := List.pairwise_append.1 hl
      have hyr := List.pairwise_cons.1 p2
      refine List.pairwise_append.2 ⟨p1, List.pairwise_cons.2 ⟨fun b hb => ?_, p2⟩, fun a ha b hb => ?_⟩
      · rcases List.mem_cons.1 hb with rfl | hb
        · exact ltI_total (fun e' => e e'.symm) hy
        · exact ltI_trans (ltI_total (fun e' => e e'.symm) hy) (hyr.1 b hb)
      · rcases List.mem_cons.1 hb with rfl | hb
        · exact ht a ha
        · exact p3 a ha b hb
theorem fold_mem {c out : List Int} {z : Int} : z ∈ c.foldl (fun out x => insD x out) out ↔ z ∈ c ∨ z ∈ out := by
  induction c generalizing out with
  | nil => simp
  | cons x c ih =>
    rw [List.foldl_cons, ih, mem_insD, List.mem_cons]
    constructor
    · rintro (a | a | a) <;> simp [a]
    · rintro ((a | a) | a) <;> simp [a]
theorem mem_normR {c : List Int} {z : Int} : z ∈ normR c ↔ z ∈ c := by unfold normR; rw [fold_mem]; simp
theorem normR_strict (c : List Int) : (normR c).Pairwise fun a b => ltI a b = true := by
  unfold normR
  have : ∀ (c out : List Int), (out.Pairwise fun a b => ltI a b = true) → (c.foldl (fun out x => insD x out) out).Pairwise fun a b => ltI a b = true := by
    intro c
    induction c with
    | nil => exact fun _ h => h
    | cons x c ih => exact fun out h => ih _ (insD_strict h)
  exact this c [] List.Pairwise.nil
theorem strict_ext : ∀ {a b : List Int}, (a.Pairwise fun x y => ltI x y = true) → (b.Pairwise fun x y => ltI x y = true) → (∀ z, z ∈ a ↔ z ∈ b) → a = b
  | [], [], _, _, _ => rfl
  | [], y :: b, _, _, h => absurd ((h y).2 (by simp)) (by simp)
  | x :: a, [], _, _, h => absurd ((h x).1 (by simp)) (by simp)
  | x :: a, y :: b, ha, hb, h => by
    have ha' := List.pairwise_cons.1 ha
    have hb' := List.pairwise_cons.1 hb
    have hxy : x = y := by
      rcases List.mem_cons.1 ((h x).1 (by simp)) with e | e
      · exact e
      · rcases List.mem_cons.1 ((h y).2 (by simp)) with e2 | e2
        · exact e2.symm
        · have h1 := ltI_asym (ha'.1 y e2)
          rw [hb'.1 x e] at h1
          cases h1
    subst hxy
    congr 1
    refine strict_ext ha'.2 hb'.2 fun z => ⟨fun hz => ?_, fun hz => ?_⟩
    · rcases List.mem_cons.1 ((h z).1 (by simp [hz])) with e | e
      · subst e
        have := ha'.1 z hz
        rw [ltI_irrefl] at this
        cases this
      · exact e
    · rcases List.mem_cons.1 ((h z).2 (by simp [hz])) with e | e
      · subst e
        have := hb'.1 z hz
        rw [ltI_irrefl] at this
        cases this
      · exact e
theorem keyI_abs {x : Int} (h1 : -1000000 ≤ x) (h2 : x ≤ 1000000) : keyI x = x.natAbs := by
  unfold keyI
  rw [wrap64 (by omega) (by omega)]
  split <;> omega
end Go.Proofs.Ytchedkjlhjfadaa
