/- Expressions as text: walked. Conditions: none. -/
import Derived.Test.YtdpkdeimliohmaaDoorK2
set_option linter.unusedSimpArgs false
set_option linter.unusedVariables false
namespace Go.Proofs.YtdpkdeimliohmaaDoor
open Go Go.Ab
variable {ext : Sem'}
def ShE (ext : Sem') (f : Nat) (e : Ex0) : Prop := G ext f [e.agg] [] = some (.ret (.d (.str (showE e))), [])
theorem one_len {s : Str} {B : Nat} (h : s.length + 2 ≤ B) (hB : B ≤ 100000000000) : [(40 : UInt8)].length + s.length ≤ 9223372036854775807 ∧ ([(40 : UInt8)] ++ s).length + [(41 : UInt8)].length ≤ 9223372036854775807 := by
  simp only [List.length_append, List.length_cons, List.length_nil]; omega
theorem dkid_e (hx : T3 ext) (e : Ex0) (b : Bool) (hE : ShE ext 13 e) (hl : (showE e).length ≤ 100000000) : G ext 31 [e.agg, .d (.bool b)] [] = some (.ret (.d (.str (brk b (showE e)))), []) := by
  unfold ShE Ex0.agg at hE
  unfold brk Ex0.agg
  generalize showE e = t at *
  cases b with
  | true =>
    rw [G_body hx.clear rfl Tryd.func31 rfl Tryd.results31 hv_31 rfl]
    simp (maxSteps := 4000000) (disch := first | (intros; contradiction) | omega) only [go_sem, hE, if_le]
    done
  | false =>
    rw [G_body hx.clear rfl Tryd.func31 rfl Tryd.results31 hv_31 rfl]
    simp (maxSteps := 4000000) (disch := first | (intros; contradiction) | omega) only [go_sem, hE]
    done
theorem len_one {α : Type} {l : List α} (h : l.length = 1) : ∃ x, l = [x] := List.length_eq_one_iff.1 h
theorem len_two {α : Type} {l : List α} (h : l.length = 2) : ∃ x y, l = [x, y] := by
  match l, h with
  | [x, y], _ => exact ⟨x, y, rfl⟩
theorem bsmall {a b : Str} (h : a.length + b.length ≤ 9223372036854775807) : a.length + b.length ≤ 9223372036854775807 := h
/-- A call's text, as it grows. -/
def callT (name : Str) (ts : List Str) : Str := name ++ [40] ++ joinL [44, 32] ts
theorem callT_snoc (name t : Str) (ts : List Str) : callT name (ts ++ [t]) = if ts = [] then callT name ts ++ t else callT name ts ++ [44, 32] ++ t := by
  unfold callT
  rw [joinL_snoc]
  split
  · rename_i h; subst h; simp [joinL]
  · simp
theorem callT_len {name : Str} {ts : List Str} {B : Nat} (h : name.length ≤ 3000) (hB : (ts.map List.length).sum + 2 * ts.length ≤ B) : (callT name ts).length ≤ 3001 + B := by
  have := joinL_len (sep := [44, 32]) (l := ts) (B := B) (by simp only [List.length_cons, List.length_nil]; omega)
  unfold callT
  simp only [List.length_append, List.length_cons, List.length_nil]; omega
theorem sum_take (l : List Ex0) (h : ∀ x, x ∈ l → (showE x).length + 2 ≤ 7000 * cntE x) : ∀ (a : List Ex0), a <+: l → ((a.map showE).map List.length).sum + 2 * a.length ≤ 7000 * cntEs l := by
  rintro a ⟨b, rfl⟩
  have key : ∀ (a b : List Ex0), (∀ x, x ∈ a ++ b → (showE x).length + 2 ≤ 7000 * cntE x) → ((a.map showE).map List.length).sum + 2 * a.length ≤ 7000 * cntEs (a ++ b) := by
    intro a
    induction a with
    | nil => intro b _; simp
    | cons x a ih =>
      intro b hb
      have h1 := hb x (by simp)
      have h2 := ih b (fun y hy => hb y (by simp at hy ⊢; exact .inr hy))
      simp only [List.map_cons, List.sum_cons, List.length_cons, List.cons_append, cntEs]
      omega
  exact key a b h
set_option maxHeartbeats 8000000 in
theorem dcall_e (hx : T3 ext) (k n : Int) (s o : Str) (ks : List Ex0) (at_ : Po) (k1 : ¬ k = 1) (k2 : ¬ k = 2) (k3 : ¬ k = 3) (k4 : ¬ k = 4) (k5 : ¬ k = 5) (k6 : ¬ k = 6) (k7 : ¬ k = 7) (k8 : ¬ k = 8) (hs : s.length ≤ 3000) (hc : cntEs ks ≤ 10000)
    (ihk : ∀ x, x ∈ ks → ShE ext 13 x ∧ (showE x).length + 2 ≤ 7000 * cntE x ∧ (showE x).length ≤ 70000000) :
    G ext 13 [.agg [.d (.int .i64 k), .d (.int .i64 n), .d (.str s), .d (.str o), .d (.sl (ks.map Ex0.row)), .d (.int .i64 at_.line), .d (.int .i64 at_.col)]] [] = some (.ret (.d (.str (s ++ [40] ++ joinL [44, 32] (ks.map showE) ++ [41]))), []) := by
  have hkl := cntEs_len ks
  have hll : (ks.map Ex0.row).length = ks.length := List.length_map _
  have hct : ∀ a : List Ex0, a <+: ks → (callT s (a.map showE)).length ≤ 3001 + 7000 * cntEs ks := fun a ha => callT_len hs (by
    have := sum_take ks (fun x hxm => (ihk x hxm).2.1) a ha
    rw [List.length_map]
    exact this)
  have h0 : s ++ [40] = callT s [] := by simp [callT, joinL]
  rw [G_body hx.clear rfl Tryd.func13 rfl Tryd.results13 hv_13 rfl]
  simp (maxSteps := 4000000) (disch := first | (intros; contradiction) | omega) only [go_sem, k1, k2, k3, k4, k5, k6, k7, k8, if_le]
  generalize hL : loopA _ _ _ = L
  apply range_upd hL (by simp (maxSteps := 4000000) (disch := first | (intros; contradiction) | omega) only [go_sem] <;> rfl) ks Ex0.row (α := List Ex0) (fun rest k a => a ++ rest = ks ∧ a.length = k) (fun k a => [(7, .d (.str (callT s (a.map showE)))), (8, .d (.int .i64 k))]) (fun _ _ => []) [] (by simp (maxSteps := 4000000) (disch := first | (intros; contradiction) | omega) only [go_sem, h0] <;> rfl) ⟨rfl, rfl⟩ ?_ ?_
  · intro x rest k' a hi hlt hr hxx hk _ next ih2
    clear hL
    obtain ⟨hi1, hi2⟩ := hi
    have hmem := List.mem_of_getElem? hxx
    obtain ⟨c1, c2, c3⟩ := ihk x hmem
    have hpre : a <+: ks := ⟨_, hi1⟩
    have hpre2 : a ++ [x] <+: ks := ⟨rest, by rw [← hi1]; simp⟩
    have l1 := hct a hpre
    have hcs := callT_snoc s (showE x) (a.map showE)
    rw [Ex0.row_eq] at hr
    unfold ShE Ex0.agg at c1
    have hk0 : (0 : Int) ≤ (k' : Int) := by omega
    have hwk : IntKind.wrap .i64 ((k' : Int) + 1) = ((k' + 1 : Nat) : Int) := by rw [wrap64 (by omega) (by omega)]; omega
    have hmm : (a ++ [x]).map showE = a.map showE ++ [showE x] := by simp
    by_cases h0k : (0 : Int) < (k' : Int)
    · have h0k' := eq_true h0k
      have hne : a.map showE ≠ [] := by
        intro h
        have : a = [] := by simpa using h
        subst this
        simp at hi2
        omega
      rw [if_neg hne] at hcs
      simp (maxSteps := 4000000) (disch := first | (intros; contradiction) | omega) only [go_sem, hlt, hr, hk0, h0k', c1, hwk, if_le]
      exact ih2 (a ++ [x]) _ ⟨by rw [← hi1]; simp, by simp [hi2]⟩ (by simp (maxSteps := 4000000) (disch := first | (intros; contradiction) | omega) only [go_sem, hmm, hcs] <;> rfl)
    · have hne : a = [] := List.length_eq_zero_iff.1 (by omega)
      subst hne
      rw [List.map_nil] at l1
      rw [List.map_nil, if_pos rfl, List.nil_append] at hcs
      simp (maxSteps := 4000000) (disch := first | (intros; contradiction) | omega) only [go_sem, hlt, hr, hk0, h0k, c1, hwk, if_le]
      exact ih2 ([] ++ [x]) _ ⟨by rw [← hi1]; simp, by simp; omega⟩ (by simp (maxSteps := 4000000) (disch := first | (intros; contradiction) | omega) only [go_sem, hcs] <;> rfl)
  · intro k' a hi hlt hk next
    clear hL
    obtain ⟨hi1, hi2⟩ := hi
    rw [List.append_nil] at hi1
    subst hi1
    have l1 := hct a ⟨[], by simp⟩
    have he : s ++ [40] ++ joinL [44, 32] (a.map showE) ++ [41] = callT s (a.map showE) ++ [41] := rfl
    rw [he]
    simp (maxSteps := 4000000) (disch := first | (intros; contradiction) | omega) only [go_sem, hlt, if_le]
    done
end Go.Proofs.YtdpkdeimliohmaaDoor
