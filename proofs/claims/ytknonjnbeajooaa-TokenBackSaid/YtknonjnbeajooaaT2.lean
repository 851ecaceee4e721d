/- token: spans of bytes, and passing over them. Conditions: none. -/
import Derived.Test.YtknonjnbeajooaaT1
namespace Go.Proofs.Ytknonjnbeajooaa
open Go Go.Ab
variable {ext : Sem'}
def spanL (p : UInt8 → Bool) : List UInt8 → Nat
  | [] => 0
  | a :: l => if p a then spanL p l + 1 else 0
theorem spanL_le (p : UInt8 → Bool) : ∀ l : List UInt8, spanL p l ≤ l.length
  | [] => Nat.le_refl _
  | a :: l => by have := spanL_le p l; simp only [spanL, List.length_cons]; split <;> omega
theorem spanL_drop {p : UInt8 → Bool} {l : List UInt8} {i : Nat} (h : i < l.length) : spanL p (l.drop i) = if p l[i] then spanL p (l.drop (i + 1)) + 1 else 0 := by
  rw [List.drop_eq_getElem_cons h]; rfl
theorem span_e (hx : TX ext) (p : UInt8 → Bool) (f : Nat) (hp : ∀ c : UInt8, G ext f [.d (.int .u8 c.toNat)] [] = some (.ret (.d (.bool (p c))), [])) (s : List UInt8) (hs : s.length ≤ 1048576) :
    G ext 30 [.d (.str s), .fn f [] []] [] = some (.ret (.d (.int .i64 (spanL p s))), []) := by
  rw [G_body hx.clear rfl Try.func30 rfl Try.results30 hv_30 rfl]
  simp (config := { maxSteps := 4000000 }) (disch := first | (intros; contradiction) | omega) only [go_sem]
  generalize hL : loopA _ _ _ = L
  apply loop_post hL (fun i : Nat => i ≤ s.length ∧ i + spanL p (s.drop i) = spanL p s) (fun i => s.length - i)
    (fun i => ⟨[(0, .d (.str s)), (1, .fn f [] []), (4, .d (.int .i64 0)), (5, .any), (7, .d (.int .i64 s.length)), (8, .d (.int .i64 i))], [], []⟩)
    0 (by simp (config := { maxSteps := 4000000 }) (disch := first | (intros; contradiction) | omega) only [go_sem] <;> rfl) ⟨Nat.zero_le _, by simp⟩
  intro i hi next ih
  by_cases h : i < s.length
  · have hc : s[i]? = some s[i] := List.getElem?_eq_getElem h
    have h' : (i : Int) < s.length := by omega
    have hd := spanL_drop (p := p) h
    cases hpc : p s[i] with
    | true =>
      rw [hpc] at hd
      simp (config := { maxSteps := 4000000 }) (disch := first | (intros; contradiction) | omega) only [go_sem, hc, h', hp, hpc, wrap64]
      refine ih (i + 1) _ (by simp at hd; omega) (by omega) (by simp (config := { maxSteps := 4000000 }) (disch := first | (intros; contradiction) | omega) only [go_sem] <;> rfl)
    | false =>
      rw [hpc] at hd
      simp (config := { maxSteps := 4000000 }) (disch := first | (intros; contradiction) | omega) only [go_sem, hc, h', hp, hpc]
      simp at hd
      simp; omega
  · have h' : ¬ (i : Int) < s.length := by omega
    have he : i = s.length := by omega
    simp (config := { maxSteps := 4000000 }) (disch := first | (intros; contradiction) | omega) only [go_sem, h']
    subst he
    simp [spanL] at hi
    simp; omega

/-- The place behind bytes. -/
def adv1 (p : Int × Int) (c : UInt8) : Int × Int := if c = 10 then (p.1 + 1, 1) else (p.1, p.2 + 1)
def adv (p : Int × Int) (l : List UInt8) : Int × Int := l.foldl adv1 p
theorem adv_append (p : Int × Int) (a b : List UInt8) : adv p (a ++ b) = adv (adv p a) b := List.foldl_append
theorem adv_flat : ∀ (l : List UInt8) (p : Int × Int), (10 : UInt8) ∉ l → adv p l = (p.1, p.2 + l.length)
  | [], p, _ => by simp [adv]
  | c :: l, p, h => by
    simp at h
    have h1 := adv_flat l (p.1, p.2 + 1) h.2
    show adv (adv1 p c) l = _
    unfold adv1
    rw [if_neg (fun e => h.1 e.symm), h1]
    simp
    omega
theorem adv_nl (p : Int × Int) (l : List UInt8) : adv p (10 :: l) = adv (p.1 + 1, 1) l := rfl
theorem adv_le (p : Int × Int) (l : List UInt8) (hp : 1 ≤ p.1 ∧ 1 ≤ p.2) : p.1 ≤ (adv p l).1 ∧ (adv p l).1 ≤ p.1 + l.length ∧ 1 ≤ (adv p l).2 ∧ (adv p l).2 ≤ p.2 + l.length := by
  induction l generalizing p with
  | nil => simp [adv]; omega
  | cons c l ih =>
    have h := ih (adv1 p c) (by unfold adv1; split <;> simp <;> omega)
    have e : adv p (c :: l) = adv (adv1 p c) l := rfl
    rw [e]
    unfold adv1 at h ⊢
    simp only [List.length_cons]
    split at h
    · rename_i hc; rw [if_pos hc]; simp only at h; omega
    · rename_i hc; rw [if_neg hc]; simp only at h; omega
theorem idxB_none {c : UInt8} : ∀ {l : List UInt8}, idxB c l = none → c ∉ l
  | [], _ => by simp
  | a :: l, h => by
    simp only [idxB] at h
    split at h
    · cases h
    · rename_i hne
      have := idxB_none (l := l) (by simpa using h)
      simp only [List.mem_cons, not_or]
      exact ⟨fun e => hne e.symm, this⟩
theorem idxB_some {c : UInt8} : ∀ {l : List UInt8} {i : Nat}, idxB c l = some i → ∃ a b, l = a ++ c :: b ∧ a.length = i ∧ c ∉ a
  | [], _, h => by cases h
  | a :: l, i, h => by
    simp only [idxB] at h
    split at h
    · rename_i he; cases h; subst he; exact ⟨[], l, rfl, rfl, by simp⟩
    · rename_i hne
      cases hx : idxB c l with
      | none => rw [hx] at h; cases h
      | some j =>
        rw [hx] at h
        cases h
        obtain ⟨u, v, rfl, h2, h3⟩ := idxB_some hx
        exact ⟨a :: u, v, rfl, by simp [h2], by simp only [List.mem_cons, not_or]; exact ⟨fun e => hne e.symm, h3⟩⟩
theorem nlInt : ((10 : UInt8).toNat : Int) = 10 := rfl
theorem idx_e (hx : TX ext) (s : List UInt8) (c : UInt8) (k : Int) (hk : k = c.toNat) (hs : s.length ≤ 1048576) : G ext 45 [.d (.str s), .d (.int .u8 k)] [] = some (.ret (.d (.int .i64 (idxI s c))), []) := by
  subst hk; exact G_ext (hx.index s c hs)
theorem pass_e (hx : TX ext) (s : List UInt8) (p : Int × Int) (n : Nat) (hn : n ≤ s.length) (hs : s.length ≤ 1048576) (hp : 1 ≤ p.1 ∧ p.1 ≤ 4000000 ∧ 1 ≤ p.2 ∧ p.2 ≤ 4000000) :
    G ext 35 [.ptr 0 0, .d (.int .i64 n)] [.cells [.d (.str s), .d (.int .i64 p.1), .d (.int .i64 p.2)]] = some (.ret (.d (.str (s.take n))), [.cells [.d (.str (s.drop n)), .d (.int .i64 (adv p (s.take n)).1), .d (.int .i64 (adv p (s.take n)).2)]]) := by
  rw [G_body hx.clear rfl Try.func35 rfl Try.results35 hv_35 rfl]
  have hn' : (n : Int) ≤ s.length := by omega
  simp (config := { maxSteps := 4000000 }) (disch := first | (intros; contradiction) | omega) only [go_sem, hn']
  generalize hL : loopA _ _ _ = L
  apply loop_post hL (fun x : List UInt8 × (Int × Int) => adv x.2 x.1 = adv p (s.take n) ∧ x.1.length ≤ n ∧ 1 ≤ x.2.1 ∧ x.2.1 + x.1.length ≤ p.1 + n ∧ 1 ≤ x.2.2 ∧ x.2.2 ≤ p.2) (fun x => x.1.length)
    (fun x => ⟨[(0, .ptr 0 0), (1, .d (.int .i64 n)), (4, .d (.str [])), (5, .d (.str x.1)), (6, .any)], [], [.cells [.d (.str s), .d (.int .i64 x.2.1), .d (.int .i64 x.2.2)]]⟩)
    (s.take n, p) (by simp (config := { maxSteps := 4000000 }) (disch := first | (intros; contradiction) | omega) only [go_sem]) ⟨rfl, by simp; omega, hp.1, by simp; omega, hp.2.2.1, Int.le_refl _⟩
  rintro ⟨t, q⟩ ⟨h1, h2, h3, h4, h5, h6⟩ next ih
  simp only at h1 h2 h3 h4 h5 h6 ih ⊢
  have hidx := idx_e hx t 10 10 rfl (by omega)
  cases hb : idxB 10 t with
  | none =>
    have hi : idxI t 10 = -1 := by unfold idxI; rw [hb]
    rw [hi] at hidx
    have hf := adv_flat t q (idxB_none hb)
    rw [h1] at hf
    simp (config := { maxSteps := 4000000 }) (disch := first | (intros; contradiction) | omega) only [go_sem, hidx, hn', wrap64]
    rw [hf]
  | some i =>
    have hi : idxI t 10 = i := by unfold idxI; rw [hb]
    rw [hi] at hidx
    obtain ⟨a, b, rfl, rfl, hna⟩ := idxB_some hb
    rw [adv_append, adv_flat a q hna, adv_nl] at h1
    have hlt : ¬ (a.length : Int) < 0 := by omega
    have hle : (a.length : Int) + 1 ≤ ((a.length + (b.length + 1) : Nat) : Int) := by omega
    have h0 : 0 ≤ (a.length : Int) + 1 := by omega
    have ht : ((a.length : Int) + 1).toNat = a.length + 1 := by omega
    have hd : (a ++ 10 :: b).drop (a.length + 1) = b := by simp
    simp only [List.length_append, List.length_cons] at h2 h4
    simp (config := { maxSteps := 4000000 }) (disch := first | (intros; contradiction) | omega) only [go_sem, hidx, hlt, hle, h0, ht, hd, wrap64]
    exact ih (b, (q.1 + 1, 1)) _ ⟨h1, by simp only; omega, by simp only; omega, by simp only; omega, by simp, by simp only; omega⟩ (by simp; omega) (by simp (config := { maxSteps := 4000000 }) (disch := first | (intros; contradiction) | omega) only [go_sem])
end Go.Proofs.Ytknonjnbeajooaa
