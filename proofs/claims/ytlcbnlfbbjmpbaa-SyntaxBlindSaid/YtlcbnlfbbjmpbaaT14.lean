/- Texts of tokens, names, and which tokens are the same. Conditions: none. -/
import Derived.Test.YtlcbnlfbbjmpbaaT12
import Derived.Test.YtlcbnlfbbjmpbaaTExt2
namespace Go.Proofs.Ytlcbnlfbbjmpbaa
open Go Go.Ab
variable {ext : Sem'}
def texts (l : List Tok) : List (List UInt8) := (l.filter fun t => decide (t.kind ≠ 5)).map (·.text)
def textL (l : List Tok) : List UInt8 := joinL [32] (texts l)
theorem texts_len (l : List Tok) : (texts l).length ≤ l.length := by unfold texts; rw [List.length_map]; exact List.length_filter_le _ _
theorem texts_take {l : List Tok} {i : Nat} {t : Tok} (h : l[i]? = some t) : texts (l.take (i + 1)) = if t.kind = 5 then texts (l.take i) else texts (l.take i) ++ [t.text] := by
  unfold texts
  rw [List.take_add_one, h, List.filter_append]
  by_cases hk : t.kind = 5
  · rw [if_pos hk]; simp [hk]
  · rw [if_neg hk]; simp [hk]
theorem rowsT_at {l : List Tok} {i : Nat} (h : i < l.length) : (rowsT l)[i]? = some (Tok.row l[i]) := by unfold rowsT; rw [List.getElem?_map, List.getElem?_eq_getElem h]; rfl
theorem rowsT_len (l : List Tok) : (rowsT l).length = l.length := List.length_map _
theorem text_e (hx : TXJ ext) (l : List Tok) (hl : l.length ≤ 1048576) (hj : (textL l).length ≤ 140737488355328) : G ext 9 [.d (.sl (rowsT l))] [] = some (.ret (.d (.str (textL l))), []) := by
  have hrl := rowsT_len l
  rw [G_body hx.clear rfl Try.func9 rfl Try.results9 hv_9 rfl]
  simp (maxSteps := 4000000) (disch := first | (intros; contradiction) | omega) only [go_sem]
  generalize hL : loopA _ _ _ = L
  apply loop_post hL (fun i : Nat => i ≤ l.length) (fun i => l.length - i)
    (fun i => ⟨[(0, .d (.sl (rowsT l))), (2, .d (.str [])), (3, .grow 0 (texts (l.take i)).length ((texts (l.take i)).map fun x => [.str x])), (5, .any), (6, .d (.sl (rowsT l))), (7, .d (.int .i64 (rowsT l).length)), (8, .d (.int .i64 i))], [], [.grow (texts (l.take i)).length 1]⟩)
    0 (by simp (maxSteps := 4000000) (disch := first | (intros; contradiction) | omega) only [go_sem] <;> rfl) (Nat.zero_le _)
  intro i hi next ih
  by_cases h : i < l.length
  · have hlt : (i : Int) < ((rowsT l).length : Int) := by omega
    have hrow := rowsT_at h
    have htt := texts_take (List.getElem?_eq_getElem h)
    have htl := texts_len (l.take i)
    rw [List.length_take] at htl
    have hroom : room (((texts (l.take i)).map fun x => ([.str x] : List Dt)).length + 1) 16 := by unfold room; simp; omega
    generalize l[i] = t at hrow htt
    simp only [Tok.row] at hrow
    by_cases hk : t.kind = 5
    · rw [if_pos hk] at htt
      simp (maxSteps := 4000000) (disch := first | (intros; contradiction) | omega) only [go_sem, hlt, hrow, hk, wrap64]
      exact ih (i + 1) _ h (by omega) (by rw [htt]; simp (maxSteps := 4000000) (disch := first | (intros; contradiction) | omega) only [go_sem] <;> rfl)
    · rw [if_neg hk] at htt
      simp (maxSteps := 4000000) (disch := first | (intros; contradiction) | omega) only [go_sem, hlt, hrow, hk, hroom, wrap64]
      exact ih (i + 1) _ h (by omega) (by rw [htt]; simp (maxSteps := 4000000) (disch := first | (intros; contradiction) | omega) only [go_sem, List.map_append, List.map_cons, List.map_nil, List.length_append, List.length_cons, List.length_nil] <;> rfl)
  · have hlt : ¬ (i : Int) < ((rowsT l).length : Int) := by omega
    have he : i = l.length := by omega
    subst he
    rw [List.take_length]
    have hjn := hx.join (texts l) [32] [] (by have := texts_len l; omega) hj
    have hjn := G_ext hjn
    simp (maxSteps := 4000000) (disch := first | (intros; contradiction) | omega) only [go_sem, hlt, hjn]
    rfl
def sameT (a b : Tok) : Bool := decide (a.kind = b.kind) && (decide (a.text = b.text) && decide (a.num = b.num))
def sameL : List Tok → List Tok → Bool
  | [], [] => true
  | a :: l, b :: m => sameT a b && sameL l m
  | _, _ => false
theorem sameL_len : ∀ {l m : List Tok}, sameL l m = true → l.length = m.length
  | [], [], _ => rfl
  | a :: l, b :: m, h => by simp only [sameL, Bool.and_eq_true] at h; simp [sameL_len h.2]
  | [], _ :: _, h => by cases h
  | _ :: _, [], h => by cases h
theorem textL_take_le (l : List Tok) (i : Nat) : (textL (l.take i)).length ≤ (textL l).length := by
  have := joinL_le [32] (texts (l.take i)) (texts (l.drop i))
  unfold textL
  have e : texts l = texts (l.take i) ++ texts (l.drop i) := by
    unfold texts
    rw [← List.map_append, ← List.filter_append, List.take_append_drop]
  rw [e]
  exact this
def isName (s : List UInt8) : Bool := decide (1 ≤ s.length) && (decide (s.length ≤ 40) && (letterAt s 0 && (decide (spanL isInner s = s.length) && !decide (s ∈ words))))
theorem eqlBool {P : Program} {t : TypeId} {a b : Bool} : binA P .eql t (.d (.bool a)) (.d (.bool b)) = yesO (eqA P 12 t (.d (.bool a)) (.d (.bool b))) := rfl
theorem joinL_bound (sep : List UInt8) (k : Nat) : ∀ xs : List (List UInt8), (∀ x, x ∈ xs → x.length ≤ k) → (joinL sep xs).length ≤ xs.length * (k + sep.length)
  | [], _ => by simp [joinL]
  | [x], h => by have := h x (by simp); simp only [joinL, List.length_cons, List.length_nil]; omega
  | x :: y :: l, h => by
    have h1 := h x (by simp)
    have h2 := joinL_bound sep k (y :: l) (fun z hz => h z (List.mem_cons_of_mem _ hz))
    simp only [joinL, List.length_append, List.length_cons] at h2 ⊢
    rw [Nat.add_mul (l.length + 1) 1]
    omega
end Go.Proofs.Ytlcbnlfbbjmpbaa
