/- Plain mathematics: the first model is the least in the order of models. Conditions: none. -/
import Derived.Test.YtbeidiaejcbgoaaSat
namespace Go.Proofs.Ytbeidiaejcbgoaa

/-- a comes before b: at the first place where they differ a has false. -/
def Lex (a b : List Bool) : Prop := ∃ i : Nat, a.take i = b.take i ∧ a[i]?.getD false = false ∧ b[i]?.getD false = true ∧ i < b.length

theorem lex_cons {x : Bool} {a b : List Bool} (h : Lex a b) : Lex (x :: a) (x :: b) := by
  obtain ⟨i, h1, h2, h3, h4⟩ := h
  exact ⟨i + 1, by simp [h1], by simpa using h2, by simpa using h3, by simpa using h4⟩

theorem allM_lex : ∀ n, (allM n).Pairwise Lex
  | 0 => by simp [allM]
  | n + 1 => by
    simp only [allM]
    rw [List.pairwise_append]
    refine ⟨?_, ?_, ?_⟩
    · exact List.Pairwise.map _ (fun a b h => lex_cons h) (allM_lex n)
    · exact List.Pairwise.map _ (fun a b h => lex_cons h) (allM_lex n)
    · intro a ha b hb
      obtain ⟨a', _, rfl⟩ := List.mem_map.1 ha
      obtain ⟨b', _, rfl⟩ := List.mem_map.1 hb
      exact ⟨0, by simp, by simp, by simp, by simp⟩

theorem mods_first {n : Nat} {ls : List (List Int)} {m0 : List Bool} {t : List (List Bool)} (h : Mods n ls = m0 :: t) {m : List Bool} (hm : m ∈ Mods n ls) : m = m0 ∨ Lex m0 m := by
  have hp : (Mods n ls).Pairwise Lex := (allM_lex n).filter _
  rw [h] at hp hm
  rw [List.pairwise_cons] at hp
  rcases List.mem_cons.1 hm with h1 | h1
  · exact .inl h1
  · exact .inr (hp.1 m h1)

theorem lex_at {a b : List Bool} (h : a = b ∨ Lex b a) {k : Nat} (hs : ∀ j, j < k → b[j]?.getD false = a[j]?.getD false) (hne : b[k]?.getD false ≠ a[k]?.getD false) : b[k]?.getD false = false := by
  rcases h with rfl | ⟨i, h1, h2, h3, h4⟩
  · exact absurd rfl hne
  · rcases Nat.lt_trichotomy i k with hlt | heq | hgt
    · have := hs i hlt; rw [h2, h3] at this; cases this
    · subst heq; exact h2
    · exfalso
      apply hne
      have e1 : (b.take i)[k]? = b[k]? := by rw [List.getElem?_take_of_lt hgt]
      have e2 : (a.take i)[k]? = a[k]? := by rw [List.getElem?_take_of_lt hgt]
      rw [← e1, ← e2, h1]

theorem mem_mods {n : Nat} {ls : List (List Int)} {m : List Bool} : m ∈ Mods n ls ↔ m.length = n ∧ fT m ls = true := by
  unfold Mods; rw [List.mem_filter, mem_allM]
end Go.Proofs.Ytbeidiaejcbgoaa
