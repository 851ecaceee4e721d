/- The document's answer for cnf and solve: a clause in order. Conditions: none. -/
import Derived.Test.YtchedkjlhjfadaaCB
set_option linter.unusedSimpArgs false
set_option linter.unusedVariables false
namespace Go.Proofs.Ytchedkjlhjfadaa
open Go Go.Ab
variable {ext : Sem'}
theorem has15_e (hx : TX ext) (l : List Int) (v : Int) (hl : l.length ≤ 1000000) : G ext 54 [.d (.sl (l.map rowI)), .d (.int .i64 v)] [] = some (.ret (.d (.bool (hasP l v))), []) := by
  have hll : (l.map rowI).length = l.length := List.length_map _
  rw [G_body hx.clear rfl Try.func54 rfl Try.results54 hv_54 rfl]
  simp (config := { maxSteps := 4000000 }) (disch := first | (intros; contradiction) | omega) only [go_sem]
  generalize hL : loopA _ _ _ = L
  apply range_upd hL (by simp (config := { maxSteps := 4000000 }) (disch := first | (intros; contradiction) | omega) only [go_sem] <;> rfl) l rowI (α := Unit) (fun rest k _ => hasP l v = hasP rest v) (fun k _ => [(5, .d (.int .i64 k))]) (fun _ _ => []) () (by simp (config := { maxSteps := 4000000 }) (disch := first | (intros; contradiction) | omega) only [go_sem] <;> rfl) rfl ?_ ?_
  · intro x rest k _ hi hlt hr hxx hk _ next ih
    clear hL
    simp only [rowI] at hr
    by_cases h : x = v
    · have e : hasP l v = true := by rw [hi]; simp [hasP, h]
      rw [e]
      have h := eq_true h
      simp (config := { maxSteps := 4000000 }) (disch := first | (intros; contradiction) | omega) only [go_sem, hlt, hr, h]
    · have e : hasP l v = hasP rest v := by rw [hi]; simp only [hasP, List.any_cons]; rw [decide_eq_false (fun e => h e.symm)]; rfl
      simp (config := { maxSteps := 4000000 }) (disch := first | (intros; contradiction) | omega) only [go_sem, hlt, hr, h, wrap64]
      exact ih () _ e (by simp (config := { maxSteps := 4000000 }) (disch := first | (intros; contradiction) | omega) only [go_sem] <;> rfl)
  · intro k _ hi hlt hk next
    clear hL
    have hi : hasP l v = false := hi
    rw [hi]
    simp (config := { maxSteps := 4000000 }) (disch := first | (intros; contradiction) | omega) only [go_sem, hlt]
theorem less_e (hx : TX ext) (a b : Int) : G ext 76 [.d (.int .i64 a), .d (.int .i64 b)] [] = some (.ret (.d (.bool (ltI a b))), []) := by
  rw [G_body hx.clear rfl Try.func76 rfl Try.results76 hv_76 rfl]
  unfold ltI keyI
  generalize hX : (if a < IntKind.wrap .i64 (0 - a) then IntKind.wrap .i64 (0 - a) else a) = x
  generalize hY : (if b < IntKind.wrap .i64 (0 - b) then IntKind.wrap .i64 (0 - b) else b) = y
  by_cases h1 : x < y
  · simp (config := { maxSteps := 4000000 }) (disch := first | (intros; contradiction) | omega) only [go_sem, hX, hY, h1, decide_true, Bool.true_or]
  · by_cases h2 : x = y
    · by_cases h3 : b < a
      · have h2 := eq_true h2
        simp (config := { maxSteps := 4000000 }) (disch := first | (intros; contradiction) | omega) only [go_sem, hX, hY, h1, h2, h3, decide_true, decide_false]
      · have h2 := eq_true h2
        simp (config := { maxSteps := 4000000 }) (disch := first | (intros; contradiction) | omega) only [go_sem, hX, hY, h1, h2, h3, decide_true, decide_false]
    · simp (config := { maxSteps := 4000000 }) (disch := first | (intros; contradiction) | omega) only [go_sem, hX, hY, h1, h2, decide_true, decide_false]
/-- A number put in its place, once. -/
def insD (x : Int) (l : List Int) : List Int :=
  match l.dropWhile (fun y => ltI y x) with
  | [] => l ++ [x]
  | y :: r => if y = x then l else l.takeWhile (fun y => ltI y x) ++ x :: y :: r
def normR (c : List Int) : List Int := c.foldl (fun out x => insD x out) []
theorem tw_dw (p : Int → Bool) : ∀ l : List Int, l = l.takeWhile p ++ l.dropWhile p
  | [] => rfl
  | x :: l => by
    by_cases h : p x = true
    · rw [List.takeWhile_cons_of_pos h, List.dropWhile_cons_of_pos h, List.cons_append, ← tw_dw p l]
    · rw [List.takeWhile_cons_of_neg h, List.dropWhile_cons_of_neg h]; rfl
theorem tw_all (p : Int → Bool) : ∀ {l : List Int} {y : Int}, y ∈ l.takeWhile p → p y = true
  | [], y, h => by cases h
  | x :: l, y, h => by
    by_cases hp : p x = true
    · rw [List.takeWhile_cons_of_pos hp] at h
      rcases List.mem_cons.1 h with rfl | h
      · exact hp
      · exact tw_all p h
    · rw [List.takeWhile_cons_of_neg hp] at h; cases h
theorem dw_head (p : Int → Bool) : ∀ {l : List Int} {y : Int} {r : List Int}, l.dropWhile p = y :: r → p y = false
  | x :: l, y, r, h => by
    by_cases hp : p x = true
    · rw [List.dropWhile_cons_of_pos hp] at h; exact dw_head p h
    · rw [List.dropWhile_cons_of_neg hp] at h; cases h; simpa using hp
theorem insD_len (x : Int) (l : List Int) : (insD x l).length ≤ l.length + 1 := by
  have h := congrArg List.length (tw_dw (fun y => ltI y x) l)
  unfold insD
  split
  · simp
  · rename_i y r hd
    rw [hd] at h
    simp only [List.length_append, List.length_cons] at h
    split <;> simp <;> omega
theorem fold_len (c out : List Int) : (c.foldl (fun out x => insD x out) out).length ≤ out.length + c.length := by
  induction c generalizing out with
  | nil => simp
  | cons x c ih =>
    have h1 := ih (insD x out)
    have h2 := insD_len x out
    simp only [List.foldl_cons, List.length_cons]
    omega
theorem room8 {n : Nat} (h : n ≤ 1000000) : room n 8 := room_n8 h
set_option maxHeartbeats 4000000 in
theorem rnorm_e (hx : TX ext) (c : List Int) (hc : c.length ≤ 100000) : ∃ b, G ext 56 [.d (.sl (c.map rowI))] [] = some (.ret (.tuple [.d (.sl ((normR c).map rowI)), .d (.bool b)]), []) := by
  have hll : (c.map rowI).length = c.length := List.length_map _
  rw [G_body hx.clear rfl Try.func56 rfl Try.results56 hv_56 rfl]
  simp (config := { maxSteps := 4000000 }) (disch := first | (intros; contradiction) | omega) only [go_sem]
  generalize hL : loopA _ _ _ = L
  apply range_upd hL (by simp (config := { maxSteps := 4000000 }) (disch := first | (intros; contradiction) | omega) only [go_sem] <;> rfl) c rowI (α := List Int × Bool) (fun rest k s => normR c = rest.foldl (fun out x => insD x out) s.1 ∧ s.1.length ≤ k)
    (fun k s => [(4, .d (.sl (s.1.map rowI))), (5, .d (.bool s.2)), (6, .d (.int .i64 k)), (7, .any)]) (fun k s => []) ([], true) (by simp (config := { maxSteps := 4000000 }) (disch := first | (intros; contradiction) | omega) only [go_sem] <;> rfl) ⟨rfl, Nat.le_refl _⟩ ?_ ?_
  · rintro x rest k ⟨out, b⟩ ⟨i1, i2⟩ hlt hr hxx hk _ next ih
    simp only at i1 i2 ih ⊢
    clear hL
    simp only [rowI] at hr
    simp only [List.foldl_cons] at i1
    have hol : (out.map rowI).length = out.length := List.length_map _
    have htd := tw_dw (fun y => ltI y x) out
    have hil := insD_len x out
    have hk0 : (0 : Int) ≤ (k : Int) := by omega
    simp (config := { maxSteps := 4000000 }) (disch := first | (intros; contradiction) | omega) only [go_sem, hlt]
    generalize hL : loopA _ _ _ = L
    apply range_upd hL (by simp (config := { maxSteps := 4000000 }) (disch := first | (intros; contradiction) | omega) only [go_sem] <;> rfl) (out.takeWhile fun y => ltI y x) rowI (α := Unit) (fun _ _ _ => True) (fun j _ => [(7, .d (.int .i64 j))]) (fun _ _ => []) () (by simp (config := { maxSteps := 4000000 }) (disch := first | (intros; contradiction) | omega) only [go_sem] <;> rfl) trivial ?_ ?_
    · rintro y rest2 j _ _ hlt2 hr2 hget2 hj _ next2 ih2
      clear hL
      have hle := less_e hx y x
      have hy : ltI y x = true := by
        exact tw_all (fun y => ltI y x) (List.mem_of_getElem? hget2)
      rw [hy] at hle
      have hlen : (out.takeWhile fun y => ltI y x).length ≤ out.length := by
        have := congrArg List.length htd
        rw [List.length_append] at this
        omega
      have hrow : (out.map rowI)[j]? = some [.int .i64 y] := by
        rw [List.getElem?_map, htd, List.getElem?_append_left hj, hget2]
        rfl
      have hj0 : (0 : Int) ≤ (j : Int) := by omega
      have hlt3 : (j : Int) < ((out.map rowI).length : Int) := by omega
      simp (config := { maxSteps := 4000000 }) (disch := first | (intros; contradiction) | omega) only [go_sem, hlt3, hrow, hr, hk0, hj0, hle, wrap64]
      exact ih2 () _ trivial (by simp (config := { maxSteps := 4000000 }) (disch := first | (intros; contradiction) | omega) only [go_sem] <;> rfl)
    · rintro j _ _ hlt2 hj next2
      clear hL
      rw [List.length_map] at hlt2
      have hdl := congrArg List.length htd
      rw [List.length_append] at hdl
      have hj0 : (0 : Int) ≤ (j : Int) := by omega
      have hfit : ∀ l : List Int, fits 1 (l.map rowI) := fun l => by intro row h; obtain ⟨x, _, rfl⟩ := List.mem_map.1 h; rfl
      have hfitT : ∀ (l : List Int) (n : Nat), fits 1 (List.take n (l.map rowI)) := fun l n => by rw [← List.map_take]; exact hfit _
      have hfitD : ∀ (l : List Int) (n : Nat), fits 1 (List.drop n (l.map rowI)) := fun l n => by rw [← List.map_drop]; exact hfit _
      have hh := rhasv_e hx c (IntKind.wrap .i64 (0 - x)) (by omega)
      have htk : List.take j (out.map rowI) = (out.takeWhile fun y => ltI y x).map rowI := by
        conv => lhs; rw [htd]
        rw [List.map_append, List.take_left' (by rw [List.length_map]; exact hj.symm)]
      have hdk : List.drop j (out.map rowI) = (out.dropWhile fun y => ltI y x).map rowI := by
        conv => lhs; rw [htd]
        rw [List.map_append, List.drop_left' (by rw [List.length_map]; exact hj.symm)]
      have hpl : ((out.takeWhile fun y => ltI y x).map rowI).length = j := by rw [List.length_map]; exact hj.symm
      have hr1 : room j 8 := room8 (by omega)
      have hr2 : room (j + 1) 8 := room8 (by omega)
      have hr3 : room (j + 1 + ((out.dropWhile fun y => ltI y x).map rowI).length) 8 := room8 (by rw [List.length_map]; omega)
      have hb : (0 : Int) ≤ (j : Int) ∧ (j : Int) ≤ ((out.map rowI).length : Int) := by omega
      have hb2 : (j : Int) ≤ ((out.map rowI).length : Int) := by omega
      cases hd : out.dropWhile fun y => ltI y x with
      | nil =>
        rw [hd] at hdl hdk hr3
        simp only [List.length_nil, List.map_nil] at hdl hdk hr3
        have hins : insD x out = out.takeWhile (fun y => ltI y x) ++ [x] := by
          unfold insD
          rw [hd]
          simp only
          conv => lhs; rw [htd, hd]
          simp
        rw [hins] at i1 hil
        have hlt3 : ¬ (j : Int) < ((out.map rowI).length : Int) := by omega
        have heq := eq_true (show (j : Int) = ((out.map rowI).length : Int) by omega)
        simp (config := { maxSteps := 4000000 }) (disch := first | (intros; contradiction) | omega) only [go_sem, hlt3, heq, hr, hk0, hb, hb2, hj0, hfit, htk, hdk, hpl, hr1, hr2, hr3]
        cases b with
        | false =>
          simp (config := { maxSteps := 4000000 }) (disch := first | (intros; contradiction) | omega) only [go_sem, hlt3, heq, hr, hk0, hb, hb2, hj0, hfit, htk, hdk, hpl, hr1, hr2, hr3, wrap64]
          exact ih (out.takeWhile (fun y => ltI y x) ++ [x], false) _ ⟨i1, by simp only; omega⟩ (by simp (config := { maxSteps := 4000000 }) (disch := first | (intros; contradiction) | omega) only [go_sem, List.map_append, List.map_cons, List.map_nil, rowI] <;> rfl)
        | true =>
          by_cases hx0 : x = 0
          · have hx0' := eq_true hx0
            simp (config := { maxSteps := 4000000 }) (disch := first | (intros; contradiction) | omega) only [go_sem, hlt3, heq, hr, hk0, hb, hb2, hj0, hfit, htk, hdk, hpl, hr1, hr2, hr3, wrap64, hx0']
            exact ih (out.takeWhile (fun y => ltI y x) ++ [x], true) _ ⟨i1, by simp only; omega⟩ (by simp (config := { maxSteps := 4000000 }) (disch := first | (intros; contradiction) | omega) only [go_sem, List.map_append, List.map_cons, List.map_nil, rowI] <;> rfl)
          · simp (config := { maxSteps := 4000000 }) (disch := first | (intros; contradiction) | omega) only [go_sem, hlt3, heq, hr, hk0, hb, hb2, hj0, hfit, htk, hdk, hpl, hr1, hr2, hr3, wrap64, hx0, hh]
            exact ih (out.takeWhile (fun y => ltI y x) ++ [x], !hasP c (IntKind.wrap .i64 (0 - x))) _ ⟨i1, by simp only; omega⟩ (by simp (config := { maxSteps := 4000000 }) (disch := first | (intros; contradiction) | omega) only [go_sem, List.map_append, List.map_cons, List.map_nil, rowI] <;> rfl)
      | cons y r =>
        rw [hd] at hdl hdk hr3
        have hlt3 : (j : Int) < ((out.map rowI).length : Int) := by simp only [List.length_cons] at hdl; omega
        have hlx := less_e hx y x
        have hyl : ltI y x = false := dw_head (fun y => ltI y x) hd
        rw [hyl] at hlx
        have hry : (out.map rowI)[j]? = some [.int .i64 y] := by
          rw [List.getElem?_map]
          conv => lhs; rw [htd, hd]
          rw [List.getElem?_append_right (by omega), ← hj, Nat.sub_self]
          rfl
        have heq : ¬ (j : Int) = ((out.map rowI).length : Int) := by omega
        simp (config := { maxSteps := 4000000 }) (disch := first | (intros; contradiction) | omega) only [go_sem, hlt3, hry, hr, hk0, hj0, hlx]
        by_cases hyx : y = x
        · have hins : insD x out = out := by unfold insD; rw [hd]; simp only; rw [if_pos hyx]
          rw [hins] at i1 hil
          have hyx := eq_true hyx
          cases b with
          | false =>
            simp (config := { maxSteps := 4000000 }) (disch := first | (intros; contradiction) | omega) only [go_sem, heq, hry, hr, hk0, hj0, hyx, wrap64]
            exact ih (out, false) _ ⟨i1, by simp only; omega⟩ (by simp (config := { maxSteps := 4000000 }) (disch := first | (intros; contradiction) | omega) only [go_sem, List.map_append, List.map_cons, List.map_nil, rowI] <;> rfl)
          | true =>
            by_cases hx0 : x = 0
            · have hx0' := eq_true hx0
              simp (config := { maxSteps := 4000000 }) (disch := first | (intros; contradiction) | omega) only [go_sem, heq, hry, hr, hk0, hj0, hyx, wrap64, hx0']
              exact ih (out, true) _ ⟨i1, by simp only; omega⟩ (by simp (config := { maxSteps := 4000000 }) (disch := first | (intros; contradiction) | omega) only [go_sem, List.map_append, List.map_cons, List.map_nil, rowI] <;> rfl)
            · simp (config := { maxSteps := 4000000 }) (disch := first | (intros; contradiction) | omega) only [go_sem, heq, hry, hr, hk0, hj0, hyx, wrap64, hx0, hh]
              exact ih (out, !hasP c (IntKind.wrap .i64 (0 - x))) _ ⟨i1, by simp only; omega⟩ (by simp (config := { maxSteps := 4000000 }) (disch := first | (intros; contradiction) | omega) only [go_sem, List.map_append, List.map_cons, List.map_nil, rowI] <;> rfl)

        · have hins : insD x out = out.takeWhile (fun y => ltI y x) ++ x :: y :: r := by unfold insD; rw [hd]; simp only; rw [if_neg hyx]
          obtain ⟨s, hs⟩ : ∃ s, s = y :: r := ⟨_, rfl⟩
          rw [← hs] at hins hdk hr3
          rw [hins] at i1 hil
          cases b with
          | false =>
            simp (config := { maxSteps := 4000000 }) (disch := first | (intros; contradiction) | omega) only [go_sem, heq, hry, hr, hk0, hb, hb2, hj0, hfit, htk, hdk, hpl, hr1, hr2, hr3, wrap64, hyx]
            exact ih (out.takeWhile (fun y => ltI y x) ++ x :: s, false) _ ⟨i1, by simp only; omega⟩ (by simp (config := { maxSteps := 4000000 }) (disch := first | (intros; contradiction) | omega) only [go_sem, List.map_append, List.map_cons, List.map_nil, rowI, List.append_assoc] <;> rfl)
          | true =>
            by_cases hx0 : x = 0
            · have hx0' := eq_true hx0
              simp (config := { maxSteps := 4000000 }) (disch := first | (intros; contradiction) | omega) only [go_sem, heq, hry, hr, hk0, hb, hb2, hj0, hfit, htk, hdk, hpl, hr1, hr2, hr3, wrap64, hyx, hx0']
              exact ih (out.takeWhile (fun y => ltI y x) ++ x :: s, true) _ ⟨i1, by simp only; omega⟩ (by simp (config := { maxSteps := 4000000 }) (disch := first | (intros; contradiction) | omega) only [go_sem, List.map_append, List.map_cons, List.map_nil, rowI, List.append_assoc] <;> rfl)
            · simp (config := { maxSteps := 4000000 }) (disch := first | (intros; contradiction) | omega) only [go_sem, heq, hry, hr, hk0, hb, hb2, hj0, hfit, htk, hdk, hpl, hr1, hr2, hr3, wrap64, hyx, hx0, hh]
              exact ih (out.takeWhile (fun y => ltI y x) ++ x :: s, !hasP c (IntKind.wrap .i64 (0 - x))) _ ⟨i1, by simp only; omega⟩ (by simp (config := { maxSteps := 4000000 }) (disch := first | (intros; contradiction) | omega) only [go_sem, List.map_append, List.map_cons, List.map_nil, rowI, List.append_assoc] <;> rfl)
  · rintro k ⟨out, b⟩ ⟨i1, i2⟩ hlt hk next
    clear hL
    have i1 : normR c = out := i1
    rw [i1]
    refine ⟨b, ?_⟩
    simp (config := { maxSteps := 4000000 }) (disch := first | (intros; contradiction) | omega) only [go_sem, hlt]
end Go.Proofs.Ytchedkjlhjfadaa
