/- TokenPlaces: each token's text stands at its place. Conditions: none. -/
import Derived.Test.YtlcbnlfbbjmpbaaT12
namespace Go.Proofs.Ytlcbnlfbbjmpbaa
open Go Go.Ab
variable {ext : Sem'}
/-- Behind another place. -/
def Lt2 (p q : Int × Int) : Prop := p.1 < q.1 ∨ (p.1 = q.1 ∧ p.2 < q.2)
theorem Lt2.trans {p q r : Int × Int} (h : Lt2 p q) (k : Lt2 q r) : Lt2 p r := by unfold Lt2 at *; omega
theorem adv1_gt (p : Int × Int) (c : UInt8) : Lt2 p (adv1 p c) := by
  unfold adv1 Lt2
  split
  · exact .inl (by show p.1 < p.1 + 1; omega)
  · exact .inr ⟨rfl, by show p.2 < p.2 + 1; omega⟩
theorem adv_gt : ∀ (l : List UInt8) (p : Int × Int), l ≠ [] → Lt2 p (adv p l)
  | [], _, h => absurd rfl h
  | [c], p, _ => adv1_gt p c
  | c :: d :: t, p, _ => (adv1_gt p c).trans (adv_gt (d :: t) (adv1 p c) (by simp))
theorem adv_ne {s : List UInt8} {a o : Nat} (h : a < o) (ho : o ≤ s.length) (p : Int × Int) : adv p (s.take a) ≠ adv p (s.take o) := by
  intro he
  have e : s.take o = s.take a ++ (s.drop a).take (o - a) := by
    have : o = a + (o - a) := by omega
    rw [this, List.take_add]
    simp
  rw [e, adv_append] at he
  have := adv_gt ((s.drop a).take (o - a)) (adv p (s.take a)) (by
    intro h0
    have := congrArg List.length h0
    simp at this
    omega)
  rw [← he] at this
  unfold Lt2 at this
  omega
/-- Tokens that stand at their places. -/
def Placed (s : List UInt8) : List Tok → Nat → Prop
  | [], _ => False
  | t :: ts, a => ∃ o, a ≤ o ∧ o + t.text.length ≤ s.length ∧ t.pos = adv (1, 1) (s.take o) ∧ (s.drop o).take t.text.length = t.text ∧ (10 : UInt8) ∉ t.text ∧ (t.text.length = 0 ↔ ts = []) ∧ (ts ≠ [] → Placed s ts (o + t.text.length))
theorem spanL_all {p : UInt8 → Bool} {l : List UInt8} {c : UInt8} (h : c ∈ l.take (spanL p l)) : p c = true := by
  obtain ⟨i, hi, rfl⟩ := List.getElem_of_mem h
  simp at hi
  rw [List.getElem_take]
  exact spanL_at (by omega)
theorem lexR_flat {l : List UInt8} {k v : Int} {n : Nat} (h : lexR l = .tok k n v) : (10 : UInt8) ∉ l.take n := by
  cases l with
  | nil => simp
  | cons c t =>
    simp only [lexR] at h
    split at h
    · unfold wordR at h
      split at h
      · cases h
      · cases h
        exact fun hm => absurd (spanL_all hm) (by decide)
    · split at h
      · unfold numberR at h
        split at h
        · cases h
        · split at h
          · cases h
          · cases h
            exact fun hm => absurd (spanL_all hm) (by decide)
      · unfold signR at h
        split at h
        · rename_i h2
          cases h
          intro hm
          have : ∀ x, x ∈ signs2 → (10 : UInt8) ∉ x := by decide
          exact this _ h2.2 hm
        · split at h
          · rename_i h2
            cases h
            intro hm
            simp at hm
            subst hm
            simp [oneSign, signs1] at h2
          · cases h
theorem eachF_placed (s : List UInt8) : ∀ (g a : Nat), a ≤ s.length → s.length < a + g → (∀ x, x ∈ eachF g (s.drop a) (adv (1, 1) (s.take a)) → x.2 = Dg.zero) → Placed s ((eachF g (s.drop a) (adv (1, 1) (s.take a))).map (·.1)) a := by
  intro g
  induction g with
  | zero => intro a h1 h2; omega
  | succ g ih =>
    intro a h1 h2 hall
    simp only [eachF] at hall ⊢
    have hsk := skipN_le false (s.drop a)
    rw [List.length_drop] at hsk
    have e1 : adv (adv (1, 1) (s.take a)) ((s.drop a).take (skipN false (s.drop a))) = adv (1, 1) (s.take (a + skipN false (s.drop a))) := by
      rw [← adv_append, ← List.take_add]
    have e2 : (s.drop a).drop (skipN false (s.drop a)) = s.drop (a + skipN false (s.drop a)) := by rw [List.drop_drop]
    rw [e1, e2] at hall ⊢
    generalize ho : a + skipN false (s.drop a) = o at *
    cases hR : lexR (s.drop o) with
    | bad f =>
      rw [hR] at hall
      have := hall _ (List.mem_singleton.2 rfl)
      cases this
    | tok k n v =>
      rw [hR] at hall
      simp only at hall ⊢
      obtain ⟨k1, k2⟩ := lexR_tok hR
      rw [List.length_drop] at k1
      have hfl := lexR_flat hR
      have hlen : ((s.drop o).take n).length = n := by simp; omega
      by_cases hk : k = 5
      · subst hk
        have hn : n = 0 := by
          rcases k2 with ⟨_, _, h⟩ | ⟨h, _⟩
          · exact h
          · exact absurd rfl h
        subst hn
        rw [if_pos rfl]
        exact ⟨o, by omega, by simp; omega, rfl, by simp, by simp, by simp, by simp⟩
      · rw [if_neg hk] at hall ⊢
        have hn : 1 ≤ n := by
          rcases k2 with ⟨h, _, _⟩ | ⟨_, h⟩
          · exact absurd h hk
          · exact h
        have e3 : adv (adv (1, 1) (s.take o)) ((s.drop o).take n) = adv (1, 1) (s.take (o + n)) := by rw [← adv_append, ← List.take_add]
        have e4 : (s.drop o).drop n = s.drop (o + n) := by rw [List.drop_drop]
        rw [e3, e4] at hall ⊢
        have hp := ih (o + n) (by omega) (by omega) (fun x hx => hall x (by simp [hx]))
        simp only [List.map_cons, Placed]
        refine ⟨o, by omega, by rw [hlen]; omega, rfl, by rw [hlen], hfl, ?_, fun _ => by rw [hlen]; exact hp⟩
        rw [hlen]
        constructor
        · intro h; omega
        · intro h; rw [h] at hp; exact absurd hp (by simp [Placed])
theorem eachL_placed {s : List UInt8} (hs : s.length ≤ 1048576) (h : ∀ x, x ∈ eachL s → x.2 = Dg.zero) : Placed s ((eachL s).map (·.1)) 0 := by
  unfold eachL at h ⊢
  rw [if_neg (by omega)] at h ⊢
  exact eachF_placed s (s.length + 1) 0 (by omega) (by omega) h
theorem neqBool {P : Program} {t : TypeId} {a b : Bool} : binA P .neq t (.d (.bool a)) (.d (.bool b)) = notO (eqA P 12 t (.d (.bool a)) (.d (.bool b))) := rfl
end Go.Proofs.Ytlcbnlfbbjmpbaa
