/- Law 16: the document's Resolve, Clauses and Check; Law 16: the document's Resolve, Clauses and Check, walked; Law 16: the document's Clauses and Check of a proof; Law 16: the document's Check of a proof. Conditions: none. -/
import Derived.Test.YtchedkjlhjfadaaQA
import Derived.Test.YtchedkjlhjfadaaS6b
import Derived.Test.YtchedkjlhjfadaaQD
import Derived.Test.YtchedkjlhjfadaaQE
import Derived.Test.YtchedkjlhjfadaaQC
set_option linter.unusedSimpArgs false
set_option linter.unusedVariables false
namespace Go.Proofs.Ytchedkjlhjfadaa
open Go Go.Ab
variable {ext : Sem'}
/-- A literal whose other is not there. -/
def okX (c : List Int) (x : Int) : Bool := decide (x = 0) || !hasP c (IntKind.wrap .i64 (0 - x))
set_option maxHeartbeats 4000000 in
theorem rnormB_e (hx : TX ext) (c : List Int) (hc : c.length ≤ 100000) : G ext 56 [.d (.sl (c.map rowI))] [] = some (.ret (.tuple [.d (.sl ((normR c).map rowI)), .d (.bool (c.all (okX c)))]), []) := by
  have hll : (c.map rowI).length = c.length := List.length_map _
  rw [G_body hx.clear rfl Try.func56 rfl Try.results56 hv_56 rfl]
  simp (config := { maxSteps := 4000000 }) (disch := first | (intros; contradiction) | omega) only [go_sem]
  generalize hL : loopA _ _ _ = L
  apply range_upd hL (by simp (config := { maxSteps := 4000000 }) (disch := first | (intros; contradiction) | omega) only [go_sem] <;> rfl) c rowI (α := List Int × Bool) (fun rest k s => normR c = rest.foldl (fun out x => insD x out) s.1 ∧ s.1.length ≤ k ∧ c.all (okX c) = (s.2 && rest.all (okX c)))
    (fun k s => [(4, .d (.sl (s.1.map rowI))), (5, .d (.bool s.2)), (6, .d (.int .i64 k)), (7, .any)]) (fun k s => []) ([], true) (by simp (config := { maxSteps := 4000000 }) (disch := first | (intros; contradiction) | omega) only [go_sem] <;> rfl) ⟨rfl, Nat.le_refl _, by simp⟩ ?_ ?_
  · rintro x rest k ⟨out, b⟩ ⟨i1, i2, i3⟩ hlt hr hxx hk _ next ih
    simp only at i1 i2 i3 ih ⊢
    clear hL
    simp only [rowI] at hr
    simp only [List.foldl_cons] at i1
    have hol : (out.map rowI).length = out.length := List.length_map _
    have htd := tw_dw (fun y => ltI y x) out
    have hil := insD_len x out
    have hk0 : (0 : Int) ≤ (k : Int) := by omega
    simp (config := { maxSteps := 4000000 }) (disch := first | (intros; contradiction) | omega) only [go_sem, hlt]
    generalize hL : loopA _ _ _ = L
    apply range_upd hL (by simp (config := { maxSteps := 4000000 }) (disch := first | (intros; contradiction) | omega) only [go_sem] <;> rfl) (out.takeWhile fun y => ltI y x) rowI (α := Unit) (fun _ _ _ => True) (fun j _ => [(7, .d (.int .i64 j))]) (fun _ _ => []) () (by simp (config := { maxSteps := 4000000 }) (disch := first | (intros; contradiction) | omega) only [go_sem] <;> rfl) trivial ?_ ?_
    · rintro y rest2 j _ _ hlt2 hr2 hget2 hj _ next2 ih2
      clear hL
      have hle := less_e hx y x
      have hy : ltI y x = true := by
        exact tw_all (fun y => ltI y x) (List.mem_of_getElem? hget2)
      rw [hy] at hle
      have hlen : (out.takeWhile fun y => ltI y x).length ≤ out.length := by
        have := congrArg List.length htd
        rw [List.length_append] at this
        omega
      have hrow : (out.map rowI)[j]? = some [.int .i64 y] := by
        rw [List.getElem?_map, htd, List.getElem?_append_left hj, hget2]
        rfl
      have hj0 : (0 : Int) ≤ (j : Int) := by omega
      have hlt3 : (j : Int) < ((out.map rowI).length : Int) := by omega
      simp (config := { maxSteps := 4000000 }) (disch := first | (intros; contradiction) | omega) only [go_sem, hlt3, hrow, hr, hk0, hj0, hle, wrap64]
      exact ih2 () _ trivial (by simp (config := { maxSteps := 4000000 }) (disch := first | (intros; contradiction) | omega) only [go_sem] <;> rfl)
    · rintro j _ _ hlt2 hj next2
      clear hL
      rw [List.length_map] at hlt2
      have hdl := congrArg List.length htd
      rw [List.length_append] at hdl
      have hj0 : (0 : Int) ≤ (j : Int) := by omega
      have hfit : ∀ l : List Int, fits 1 (l.map rowI) := fun l => by intro row h; obtain ⟨x, _, rfl⟩ := List.mem_map.1 h; rfl
      have hfitT : ∀ (l : List Int) (n : Nat), fits 1 (List.take n (l.map rowI)) := fun l n => by rw [← List.map_take]; exact hfit _
      have hfitD : ∀ (l : List Int) (n : Nat), fits 1 (List.drop n (l.map rowI)) := fun l n => by rw [← List.map_drop]; exact hfit _
      have hh := rhasv_e hx c (IntKind.wrap .i64 (0 - x)) (by omega)
      have htk : List.take j (out.map rowI) = (out.takeWhile fun y => ltI y x).map rowI := by
        conv => lhs; rw [htd]
        rw [List.map_append, List.take_left' (by rw [List.length_map]; exact hj.symm)]
      have hdk : List.drop j (out.map rowI) = (out.dropWhile fun y => ltI y x).map rowI := by
        conv => lhs; rw [htd]
        rw [List.map_append, List.drop_left' (by rw [List.length_map]; exact hj.symm)]
      have hpl : ((out.takeWhile fun y => ltI y x).map rowI).length = j := by rw [List.length_map]; exact hj.symm
      have hr1 : room j 8 := room8 (by omega)
      have hr2 : room (j + 1) 8 := room8 (by omega)
      have hr3 : room (j + 1 + ((out.dropWhile fun y => ltI y x).map rowI).length) 8 := room8 (by rw [List.length_map]; omega)
      have hb : (0 : Int) ≤ (j : Int) ∧ (j : Int) ≤ ((out.map rowI).length : Int) := by omega
      have hb2 : (j : Int) ≤ ((out.map rowI).length : Int) := by omega
      cases hd : out.dropWhile fun y => ltI y x with
      | nil =>
        rw [hd] at hdl hdk hr3
        simp only [List.length_nil, List.map_nil] at hdl hdk hr3
        have hins : insD x out = out.takeWhile (fun y => ltI y x) ++ [x] := by
          unfold insD
          rw [hd]
          simp only
          conv => lhs; rw [htd, hd]
          simp
        rw [hins] at i1 hil
        have hlt3 : ¬ (j : Int) < ((out.map rowI).length : Int) := by omega
        have heq := eq_true (show (j : Int) = ((out.map rowI).length : Int) by omega)
        simp (config := { maxSteps := 4000000 }) (disch := first | (intros; contradiction) | omega) only [go_sem, hlt3, heq, hr, hk0, hb, hb2, hj0, hfit, htk, hdk, hpl, hr1, hr2, hr3]
        cases b with
        | false =>
          simp (config := { maxSteps := 4000000 }) (disch := first | (intros; contradiction) | omega) only [go_sem, hlt3, heq, hr, hk0, hb, hb2, hj0, hfit, htk, hdk, hpl, hr1, hr2, hr3, wrap64]
          exact ih (out.takeWhile (fun y => ltI y x) ++ [x], false) _ ⟨i1, by simp only; omega, by rw [i3]; simp⟩ (by simp (config := { maxSteps := 4000000 }) (disch := first | (intros; contradiction) | omega) only [go_sem, List.map_append, List.map_cons, List.map_nil, rowI] <;> rfl)
        | true =>
          by_cases hx0 : x = 0
          · have hx0' := eq_true hx0
            simp (config := { maxSteps := 4000000 }) (disch := first | (intros; contradiction) | omega) only [go_sem, hlt3, heq, hr, hk0, hb, hb2, hj0, hfit, htk, hdk, hpl, hr1, hr2, hr3, wrap64, hx0']
            exact ih (out.takeWhile (fun y => ltI y x) ++ [x], true) _ ⟨i1, by simp only; omega, by rw [i3, List.all_cons]; simp [okX, hx0]⟩ (by simp (config := { maxSteps := 4000000 }) (disch := first | (intros; contradiction) | omega) only [go_sem, List.map_append, List.map_cons, List.map_nil, rowI] <;> rfl)
          · simp (config := { maxSteps := 4000000 }) (disch := first | (intros; contradiction) | omega) only [go_sem, hlt3, heq, hr, hk0, hb, hb2, hj0, hfit, htk, hdk, hpl, hr1, hr2, hr3, wrap64, hx0, hh]
            exact ih (out.takeWhile (fun y => ltI y x) ++ [x], !hasP c (IntKind.wrap .i64 (0 - x))) _ ⟨i1, by simp only; omega, by rw [i3, List.all_cons]; simp [okX, hx0]⟩ (by simp (config := { maxSteps := 4000000 }) (disch := first | (intros; contradiction) | omega) only [go_sem, List.map_append, List.map_cons, List.map_nil, rowI] <;> rfl)
      | cons y r =>
        rw [hd] at hdl hdk hr3
        have hlt3 : (j : Int) < ((out.map rowI).length : Int) := by simp only [List.length_cons] at hdl; omega
        have hlx := less_e hx y x
        have hyl : ltI y x = false := dw_head (fun y => ltI y x) hd
        rw [hyl] at hlx
        have hry : (out.map rowI)[j]? = some [.int .i64 y] := by
          rw [List.getElem?_map]
          conv => lhs; rw [htd, hd]
          rw [List.getElem?_append_right (by omega), ← hj, Nat.sub_self]
          rfl
        have heq : ¬ (j : Int) = ((out.map rowI).length : Int) := by omega
        simp (config := { maxSteps := 4000000 }) (disch := first | (intros; contradiction) | omega) only [go_sem, hlt3, hry, hr, hk0, hj0, hlx]
        by_cases hyx : y = x
        · have hins : insD x out = out := by unfold insD; rw [hd]; simp only; rw [if_pos hyx]
          rw [hins] at i1 hil
          have hyx := eq_true hyx
          cases b with
          | false =>
            simp (config := { maxSteps := 4000000 }) (disch := first | (intros; contradiction) | omega) only [go_sem, heq, hry, hr, hk0, hj0, hyx, wrap64]
            exact ih (out, false) _ ⟨i1, by simp only; omega, by rw [i3]; simp⟩ (by simp (config := { maxSteps := 4000000 }) (disch := first | (intros; contradiction) | omega) only [go_sem, List.map_append, List.map_cons, List.map_nil, rowI] <;> rfl)
          | true =>
            by_cases hx0 : x = 0
            · have hx0' := eq_true hx0
              simp (config := { maxSteps := 4000000 }) (disch := first | (intros; contradiction) | omega) only [go_sem, heq, hry, hr, hk0, hj0, hyx, wrap64, hx0']
              exact ih (out, true) _ ⟨i1, by simp only; omega, by rw [i3, List.all_cons]; simp [okX, hx0]⟩ (by simp (config := { maxSteps := 4000000 }) (disch := first | (intros; contradiction) | omega) only [go_sem, List.map_append, List.map_cons, List.map_nil, rowI] <;> rfl)
            · simp (config := { maxSteps := 4000000 }) (disch := first | (intros; contradiction) | omega) only [go_sem, heq, hry, hr, hk0, hj0, hyx, wrap64, hx0, hh]
              exact ih (out, !hasP c (IntKind.wrap .i64 (0 - x))) _ ⟨i1, by simp only; omega, by rw [i3, List.all_cons]; simp [okX, hx0]⟩ (by simp (config := { maxSteps := 4000000 }) (disch := first | (intros; contradiction) | omega) only [go_sem, List.map_append, List.map_cons, List.map_nil, rowI] <;> rfl)

        · have hins : insD x out = out.takeWhile (fun y => ltI y x) ++ x :: y :: r := by unfold insD; rw [hd]; simp only; rw [if_neg hyx]
          obtain ⟨s, hs⟩ : ∃ s, s = y :: r := ⟨_, rfl⟩
          rw [← hs] at hins hdk hr3
          rw [hins] at i1 hil
          cases b with
          | false =>
            simp (config := { maxSteps := 4000000 }) (disch := first | (intros; contradiction) | omega) only [go_sem, heq, hry, hr, hk0, hb, hb2, hj0, hfit, htk, hdk, hpl, hr1, hr2, hr3, wrap64, hyx]
            exact ih (out.takeWhile (fun y => ltI y x) ++ x :: s, false) _ ⟨i1, by simp only; omega, by rw [i3]; simp⟩ (by simp (config := { maxSteps := 4000000 }) (disch := first | (intros; contradiction) | omega) only [go_sem, List.map_append, List.map_cons, List.map_nil, rowI, List.append_assoc] <;> rfl)
          | true =>
            by_cases hx0 : x = 0
            · have hx0' := eq_true hx0
              simp (config := { maxSteps := 4000000 }) (disch := first | (intros; contradiction) | omega) only [go_sem, heq, hry, hr, hk0, hb, hb2, hj0, hfit, htk, hdk, hpl, hr1, hr2, hr3, wrap64, hyx, hx0']
              exact ih (out.takeWhile (fun y => ltI y x) ++ x :: s, true) _ ⟨i1, by simp only; omega, by rw [i3, List.all_cons]; simp [okX, hx0]⟩ (by simp (config := { maxSteps := 4000000 }) (disch := first | (intros; contradiction) | omega) only [go_sem, List.map_append, List.map_cons, List.map_nil, rowI, List.append_assoc] <;> rfl)
            · simp (config := { maxSteps := 4000000 }) (disch := first | (intros; contradiction) | omega) only [go_sem, heq, hry, hr, hk0, hb, hb2, hj0, hfit, htk, hdk, hpl, hr1, hr2, hr3, wrap64, hyx, hx0, hh]
              exact ih (out.takeWhile (fun y => ltI y x) ++ x :: s, !hasP c (IntKind.wrap .i64 (0 - x))) _ ⟨i1, by simp only; omega, by rw [i3, List.all_cons]; simp [okX, hx0]⟩ (by simp (config := { maxSteps := 4000000 }) (disch := first | (intros; contradiction) | omega) only [go_sem, List.map_append, List.map_cons, List.map_nil, rowI, List.append_assoc] <;> rfl)
  · rintro k ⟨out, b⟩ ⟨i1, i2, i3⟩ hlt hk next
    clear hL
    have i1 : normR c = out := i1
    have i3 : c.all (okX c) = (b && true) := i3
    rw [i1, i3, Bool.and_true]
    simp (config := { maxSteps := 4000000 }) (disch := first | (intros; contradiction) | omega) only [go_sem, hlt]
theorem sorted_clean {N : Nat} (hN : N ≤ 100000) : ∀ {l : List Int}, RightC N l → l.Pairwise (fun a b => ltI a b = true) → cleanL l = true → ∀ x, x ∈ l → -x ∉ l
  | [], _, _, _, x, h => by cases h
  | [a], hr, _, _, x, h => by
    simp only [List.mem_singleton] at h ⊢
    have := hr a (by simp)
    omega
  | a :: b :: l, hr, hp, hc, x, h => by
    have ra := hr a (by simp)
    have rb := hr b (by simp)
    have hr2 : RightC N (b :: l) := fun y hy => hr y (by simp [hy])
    have hp2 := (List.pairwise_cons.1 hp)
    simp only [cleanL, Bool.and_eq_true, Bool.not_eq_true', decide_eq_false_iff_not] at hc
    rw [wrap64 (by omega) (by omega)] at hc
    have ih := sorted_clean hN hr2 hp2.2 hc.2
    have key : ∀ y, y ≠ 0 → -(N : Int) ≤ y → y ≤ N → keyI y = y.natAbs := fun y h0 h1 h2 => keyI_abs (by omega) (by omega)
    have hcore : -a ∉ b :: l := fun hm => by
      rcases List.mem_cons.1 hm with e | e
      · exact hc.1 (by omega)
      · have h1 := hp2.1 b (by simp)
        have h2 := (List.pairwise_cons.1 hp2.2).1 (-a) e
        unfold ltI at h1 h2
        rw [key a ra.1 ra.2.1 ra.2.2, key b rb.1 rb.2.1 rb.2.2] at h1
        rw [key b rb.1 rb.2.1 rb.2.2, key (-a) (by omega) (by omega) (by omega)] at h2
        simp only [Bool.or_eq_true, Bool.and_eq_true, decide_eq_true_eq] at h1 h2
        omega
    intro hm
    rcases List.mem_cons.1 h with e | e
    · subst e
      rcases List.mem_cons.1 hm with e2 | e2
      · omega
      · exact hcore e2
    · rcases List.mem_cons.1 hm with e2 | e2
      · rw [← e2, show - -x = x by omega] at hcore
        exact hcore e
      · exact ih x e e2
theorem norm_eq (c : List Int) : normR c = normL c := strict_ext (normR_strict c) (dd_strict (sort_sorted c)) fun z => by rw [mem_normR, mem_norm]
/-- The document's answer to two clauses. -/
def resR (a b : List Int) (v : Int) : Option (List Int) :=
  if v < 1 ∨ hasP a v = false ∨ hasP b (0 - v) = false then none else
  if (withoutP v a ++ withoutP (0 - v) b).all (okX (withoutP v a ++ withoutP (0 - v) b)) then some (normR (withoutP v a ++ withoutP (0 - v) b)) else none
theorem resR_eq {N : Nat} (hN : N ≤ 100000) {a b : List Int} (ha : RightC N a) (hb : RightC N b) (v : Int) : resR a b v = resolveP a b v := by
  unfold resR resolveP
  split
  · rfl
  · have hr : RightC N (withoutP v a ++ withoutP (0 - v) b) := fun y hy => by
      simp only [withoutP, List.mem_append, List.mem_filter] at hy
      rcases hy with h | h
      · exact ha y h.1
      · exact hb y h.1
    generalize withoutP v a ++ withoutP (0 - v) b = c at hr
    have hrn : RightC N (normL c) := fun y hy => hr y (mem_norm.1 hy)
    have e : c.all (okX c) = cleanL (normL c) := by
      apply Bool.eq_iff_iff.2
      constructor
      · intro h
        rw [List.all_eq_true] at h
        refine cleanL_of fun x y hx hy e => ?_
        have hxr := hrn x hx
        have := h x (mem_norm.1 hx)
        unfold okX at this
        rw [decide_eq_false hxr.1, Bool.false_or, Bool.not_eq_true'] at this
        rw [has_iff.2 (by rw [← e]; exact mem_norm.1 hy)] at this
        cases this
      · intro h
        rw [List.all_eq_true]
        intro x hx
        have hxr := hr x hx
        have h2 := sorted_clean hN hrn (dd_strict (sort_sorted c)) h x (mem_norm.2 hx)
        unfold okX
        cases hh : hasP c (IntKind.wrap .i64 (0 - x)) with
        | false => simp
        | true =>
          have := has_iff.1 hh
          rw [wrap64 (by omega) (by omega), show 0 - x = -x by omega] at this
          exact absurd (mem_norm.2 this) h2
    rw [e, norm_eq]
end Go.Proofs.Ytchedkjlhjfadaa
namespace Go.Proofs.Ytchedkjlhjfadaa
open Go Go.Ab
variable {ext : Sem'}
theorem without_take (v : Int) (a : List Int) {k : Nat} {x : Int} (h : a[k]? = some x) : withoutP v (a.take (k + 1)) = withoutP v (a.take k) ++ if x = v then [] else [x] := by
  unfold withoutP
  rw [List.take_add_one, h, List.filter_append]
  by_cases e : x = v <;> simp [e]
set_option maxHeartbeats 4000000 in
theorem rresolve_e (hx : TX ext) (a b : List Int) (v : Int) (ha : a.length ≤ 40000) (hb : b.length ≤ 40000) (hv : v ≤ 9223372036854775807) : G ext 92 [.d (.sl (a.map rowI)), .d (.sl (b.map rowI)), .d (.int .i64 v)] [] = some (.ret (resA (resR a b v)), []) := by
  have hla : (a.map rowI).length = a.length := List.length_map _
  have hlb : (b.map rowI).length = b.length := List.length_map _
  have h1 := rhasv_e hx a v (by omega)
  have h2 := rhasv_e hx b (0 - v) (by omega)
  have hl1 : (withoutP v a).length ≤ a.length := List.length_filter_le _ _
  have hl2 : (withoutP (0 - v) b).length ≤ b.length := List.length_filter_le _ _
  have hn := rnormB_e hx (withoutP v a ++ withoutP (0 - v) b) (by rw [List.length_append]; omega)
  unfold resR
  by_cases g1 : v < 1
  · rw [if_pos (.inl g1)]
    simp only [resA]
    rw [G_body hx.clear rfl Try.func92 rfl Try.results92 hv_92 rfl]
    simp (config := { maxSteps := 4000000 }) (disch := first | (intros; contradiction) | omega) only [go_sem, g1]
  · cases g2 : hasP a v with
    | false =>
      rw [g2] at h1
      rw [if_pos (.inr (.inl rfl))]
      simp only [resA]
      rw [G_body hx.clear rfl Try.func92 rfl Try.results92 hv_92 rfl]
      simp (config := { maxSteps := 4000000 }) (disch := first | (intros; contradiction) | omega) only [go_sem, g1, h1]
    | true =>
      rw [g2] at h1
      have hwv : IntKind.wrap .i64 (0 - v) = 0 - v := wrap64 (by omega) (by omega)
      cases g3 : hasP b (0 - v) with
      | false =>
        rw [g3] at h2
        rw [if_pos (.inr (.inr rfl))]
        simp only [resA]
        rw [G_body hx.clear rfl Try.func92 rfl Try.results92 hv_92 rfl]
        simp (config := { maxSteps := 4000000 }) (disch := first | (intros; contradiction) | omega) only [go_sem, g1, h1, h2, hwv]
      | true =>
        rw [g3] at h2
        rw [if_neg (by simp; omega)]
        generalize hres : (if (withoutP v a ++ withoutP (0 - v) b).all (okX (withoutP v a ++ withoutP (0 - v) b)) = true then some (normR (withoutP v a ++ withoutP (0 - v) b)) else none) = res
        rw [G_body hx.clear rfl Try.func92 rfl Try.results92 hv_92 rfl]
        simp (config := { maxSteps := 4000000 }) (disch := first | (intros; contradiction) | omega) only [go_sem, g1, h1, h2, hwv]
        generalize hL : loopA _ _ _ = L
        apply range_upd hL (by simp (config := { maxSteps := 4000000 }) (disch := first | (intros; contradiction) | omega) only [go_sem] <;> rfl) a rowI (α := Nat) (fun rest k e => True) (fun k e => [(8, .grow 1 e ((withoutP v (a.take k)).map rowI)), (9, .d (.int .i64 k))]) (fun k e => [(1, .grow e 1)]) 0 (by simp (config := { maxSteps := 4000000 }) (disch := first | (intros; contradiction) | omega) only [go_sem] <;> rfl) trivial ?_ ?_
        · rintro x rest k e _ hlt hrow hget hk _ next ih
          clear hL
          simp only [rowI] at hrow
          have hwt := without_take v a hget
          have hk0 : (0 : Int) ≤ (k : Int) := by omega
          have hwl : (withoutP v (a.take k)).length ≤ k := Nat.le_trans (List.length_filter_le _ _) (by simp; omega)
          have hroom : room (((withoutP v (a.take k)).map rowI).length + 1) 8 := room_n8 (by rw [List.length_map]; omega)
          by_cases hxv : x = v
          · rw [if_pos hxv, List.append_nil] at hwt
            have hxv' := eq_true hxv
            simp (config := { maxSteps := 4000000 }) (disch := first | (intros; contradiction) | omega) only [go_sem, hlt, hrow, hk0, hxv', wrap64]
            exact ih e _ trivial (by rw [hwt]; simp (config := { maxSteps := 4000000 }) (disch := first | (intros; contradiction) | omega) only [go_sem] <;> rfl)
          · rw [if_neg hxv] at hwt
            simp (config := { maxSteps := 4000000 }) (disch := first | (intros; contradiction) | omega) only [go_sem, hlt, hrow, hk0, hxv, hroom, wrap64]
            exact ih (e + 1) _ trivial (by rw [hwt]; simp (config := { maxSteps := 4000000 }) (disch := first | (intros; contradiction) | omega) only [go_sem, List.map_append, List.map_cons, List.map_nil, rowI] <;> rfl)
        · rintro k e _ hlt hk next
          clear hL
          rw [hk, List.take_length]
          rw [← hk]
          simp (config := { maxSteps := 4000000 }) (disch := first | (intros; contradiction) | omega) only [go_sem, hlt]
          generalize hL : loopA _ _ _ = L
          apply range_upd hL (by simp (config := { maxSteps := 4000000 }) (disch := first | (intros; contradiction) | omega) only [go_sem] <;> rfl) b rowI (α := Nat) (fun rest k e => True) (fun k e => [(8, .grow 1 e ((withoutP v a ++ withoutP (0 - v) (b.take k)).map rowI)), (10, .d (.int .i64 k))]) (fun k e => [(1, .grow e 1)]) e (by simp (config := { maxSteps := 4000000 }) (disch := first | (intros; contradiction) | omega) only [go_sem, List.take_zero, withoutP, List.filter_nil, List.append_nil] <;> rfl) trivial ?_ ?_
          · rintro x rest k2 e2 _ hlt2 hrow hget hk2 _ next2 ih2
            clear hL
            simp only [rowI] at hrow
            have hwt := without_take (0 - v) b hget
            have hk0 : (0 : Int) ≤ (k2 : Int) := by omega
            have hwl : (withoutP (0 - v) (b.take k2)).length ≤ k2 := Nat.le_trans (List.length_filter_le _ _) (by simp; omega)
            have hroom : room (((withoutP v a ++ withoutP (0 - v) (b.take k2)).map rowI).length + 1) 8 := room_n8 (by rw [List.length_map, List.length_append]; omega)
            generalize hcc : withoutP v a = wa at *
            by_cases hxv : x = 0 - v
            · rw [if_pos hxv, List.append_nil] at hwt
              have hxv' := eq_true hxv
              simp (config := { maxSteps := 4000000 }) (disch := first | (intros; contradiction) | omega) only [go_sem, hlt2, hrow, hk0, hwv, hxv', wrap64]
              exact ih2 e2 _ trivial (by rw [hwt]; simp (config := { maxSteps := 4000000 }) (disch := first | (intros; contradiction) | omega) only [go_sem] <;> rfl)
            · rw [if_neg hxv] at hwt
              simp (config := { maxSteps := 4000000 }) (disch := first | (intros; contradiction) | omega) only [go_sem, hlt2, hrow, hk0, hwv, hxv, hroom, wrap64]
              exact ih2 (e2 + 1) _ trivial (by rw [hwt]; simp (config := { maxSteps := 4000000 }) (disch := first | (intros; contradiction) | omega) only [go_sem, ← List.append_assoc, List.map_append, List.map_cons, List.map_nil, rowI] <;> rfl)
          · rintro k2 e2 _ hlt2 hk2 next2
            clear hL
            rw [hk2, List.take_length]
            rw [← hk2]
            generalize withoutP v a ++ withoutP (0 - v) b = c at hn hres
            cases hb2 : c.all (okX c) with
            | true =>
              rw [hb2, if_pos rfl] at hres
              rw [hb2] at hn
              subst hres
              simp only [resA]
              simp (config := { maxSteps := 4000000 }) (disch := first | (intros; contradiction) | omega) only [go_sem, hlt2, hn]
              done
            | false =>
              rw [hb2, if_neg (by simp)] at hres
              rw [hb2] at hn
              subst hres
              simp only [resA]
              simp (config := { maxSteps := 4000000 }) (disch := first | (intros; contradiction) | omega) only [go_sem, hlt2, hn]
              done
end Go.Proofs.Ytchedkjlhjfadaa
namespace Go.Proofs.Ytchedkjlhjfadaa
open Go Go.Ab
variable {ext : Sem'}
set_option maxHeartbeats 4000000 in
theorem rclauses_e (hx : TX ext) (f : Fm) (hs : Short f) (hr : rightP f = true) (l : List Ps) (hl : l.length ≤ 10000) (out : List (List Int)) (hok : Ok f.l l out) (hrl : RightL f.n.toNat (f.l ++ out)) (hn : f.n.toNat ≤ 100000) (hlen : ∀ c, c ∈ f.l ++ out → c.length ≤ 40000) (hon : ∀ s, s ∈ l → s.on ≤ 100000) :
    G ext 66 [f.av, .d (.sl (l.map rowS))] [] = some (.ret (.tuple [.d (.sl (out.map rowC)), .d (.bool true)]), []) := by
  have hrt := rright_e hx f hs
  rw [hr] at hrt
  have hll : (l.map rowS).length = l.length := List.length_map _
  have hfl : (f.l.map rowC).length = f.l.length := List.length_map _
  have hfs := hs.l
  have hfit : fits 1 (f.l.map rowC) := by intro row h; obtain ⟨x, _, rfl⟩ := List.mem_map.1 h; rfl
  have hr0 : room (f.l.map rowC).length 24 := by unfold room; simp; omega
  have hol := hok.len
  simp only [Fm.av] at hrt ⊢
  rw [G_body hx.clear rfl Try.func66 rfl Try.results66 hv_66 rfl]
  simp (config := { maxSteps := 4000000 }) (disch := first | (intros; contradiction) | omega) only [go_sem, hrt, hfit, hr0]
  generalize hL : loopA _ _ _ = L
  apply range_upd hL (by simp (config := { maxSteps := 4000000 }) (disch := first | (intros; contradiction) | omega) only [go_sem] <;> rfl) l rowS (α := Unit) (fun rest k _ => True) (fun k _ => [(6, .grow 2 (k + 1) ((f.l ++ out.take k).map rowC)), (7, .grow 4 k ((out.take k).map rowC)), (8, .d (.int .i64 k))]) (fun k _ => [(2, .grow (k + 1) 1), (4, .grow k 1)]) () (by simp (config := { maxSteps := 4000000 }) (disch := first | (intros; contradiction) | omega) only [go_sem, List.take_zero, List.append_nil, List.map_nil] <;> rfl) trivial ?_ ?_
  · rintro s rest k _ _ hlt hrow hget hk _ next ih
    clear hL
    obtain ⟨o1, o2, o3, o4, o5⟩ := hok.at_ k hk
    have hat : at0 l k = s := by unfold at0; rw [List.getD_eq_getElem?_getD, hget]; rfl
    rw [hat] at o1 o2 o3 o4 o5
    have hson := hon s (List.mem_of_getElem? hget)
    simp only [rowS] at hrow
    have htl : (out.take k).length = k := by rw [List.length_take]; omega
    have hal : ((f.l ++ out.take k).map rowC).length = f.l.length + k := by rw [List.length_map, List.length_append, htl]
    have hk0 : (0 : Int) ≤ (k : Int) := by omega
    have n1 : ¬ s.a < 0 := by omega
    have n2 : ¬ s.b < 0 := by omega
    have n3 : ¬ (((f.l ++ out.take k).map rowC).length : Int) ≤ s.a := by omega
    have n4 : ¬ (((f.l ++ out.take k).map rowC).length : Int) ≤ s.b := by omega
    have hall : f.l ++ out = (f.l ++ out.take k) ++ out.drop k := by rw [List.append_assoc, List.take_append_drop]
    have hg : ∀ x : Int, 0 ≤ x → x < ((f.l.length + k : Nat) : Int) → ((f.l ++ out.take k).map rowC)[x.toNat]? = some [.sl ((cl f.l out x).map rowI)] ∧ (cl f.l out x).length ≤ 40000 ∧ RightC f.n.toNat (cl f.l out x) := by
      intro x h0 h1
      have hx1 : x.toNat < (f.l ++ out.take k).length := by rw [List.length_append, htl]; omega
      have hx2 : x.toNat < (f.l ++ out).length := by rw [List.length_append]; omega
      have hcl : cl f.l out x = (f.l ++ out.take k).getD x.toNat [] := by unfold cl; rw [hall, getD_app1 hx1]
      have hmem : cl f.l out x ∈ f.l ++ out := by unfold cl; rw [List.getD_eq_getElem?_getD, List.getElem?_eq_getElem hx2]; exact List.getElem_mem _
      refine ⟨?_, hlen _ hmem, hrl _ hmem⟩
      rw [List.getElem?_map, hcl, List.getD_eq_getElem?_getD, List.getElem?_eq_getElem hx1]; rfl
    obtain ⟨ga, la, ra⟩ := hg s.a o1 o2
    obtain ⟨gb, lb, rb⟩ := hg s.b o3 o4
    have hre := rresolve_e hx (cl f.l out s.a) (cl f.l out s.b) s.on la lb (by omega)
    rw [resR_eq hn ra rb, o5] at hre
    have hnx : out.take (k + 1) = out.take k ++ [cl f.l out ((f.l.length + k : Nat) : Int)] := by
      rw [List.take_add_one]
      congr 1
      unfold cl
      rw [Int.toNat_natCast, getD_app2, List.getD_eq_getElem?_getD, List.getElem?_eq_getElem (by omega)]
      rfl
    generalize cl f.l out ((f.l.length + k : Nat) : Int) = c at hre hnx
    generalize cl f.l out s.a = ca at ga hre
    generalize cl f.l out s.b = cb at gb hre
    have hr1 : room (((f.l ++ out.take k).map rowC).length + 1) 24 := by rw [hal]; unfold room; simp; omega
    have hr2 : room (((out.take k).map rowC).length + 1) 24 := by rw [List.length_map, htl]; unfold room; simp; omega
    simp only [resA] at hre
    simp (config := { maxSteps := 4000000 }) (disch := first | (intros; contradiction) | omega) only [go_sem, hlt, hrow, hk0, n1, n2, n3, n4, o1, o3, ga, gb, hre, hr1, hr2, wrap64]
    refine ih () _ trivial ?_
    rw [hnx, ← List.append_assoc]
    simp (config := { maxSteps := 4000000 }) (disch := first | (intros; contradiction) | omega) only [go_sem, List.map_append, List.map_cons, List.map_nil, rowC] <;> rfl
  · rintro k _ _ hlt hk next
    clear hL
    rw [show List.take k out = out by rw [hk, ← hol, List.take_length]]
    simp (config := { maxSteps := 4000000 }) (disch := first | (intros; contradiction) | omega) only [go_sem, hlt]
    done
end Go.Proofs.Ytchedkjlhjfadaa
namespace Go.Proofs.Ytchedkjlhjfadaa
open Go Go.Ab
variable {ext : Sem'}
set_option maxHeartbeats 4000000 in
theorem rempty_e (hx : TX ext) (f : Fm) (hs : Short f) (hr : rightP f = true) (l : List Ps) (hl : l.length ≤ 10000) (out : List (List Int)) (hok : Ok f.l l out) (hrl : RightL f.n.toNat (f.l ++ out)) (hn : f.n.toNat ≤ 100000) (hlen : ∀ c, c ∈ f.l ++ out → c.length ≤ 40000) (hon : ∀ s, s ∈ l → s.on ≤ 100000) (e : Nat) (hf : First f.l out e) :
    G ext 46 [f.av, .d (.sl (l.map rowS))] [] = some (.ret (.d (.int .i64 e)), []) := by
  have hc := rclauses_e hx f hs hr l hl out hok hrl hn hlen hon
  have hol := hok.len
  have hfs := hs.l
  have hfit : ∀ q : List (List Int), fits 1 (q.map rowC) := fun q => by intro row h; obtain ⟨x, _, rfl⟩ := List.mem_map.1 h; rfl
  have hfl : (f.l.map rowC).length = f.l.length := List.length_map _
  have hol2 : (out.map rowC).length = out.length := List.length_map _
  have hr0 : room (f.l.map rowC).length 24 := by rw [hfl]; unfold room; simp; omega
  have hr1 : room ((f.l.map rowC).length + (out.map rowC).length) 24 := by rw [hfl, hol2]; unfold room; simp; omega
  have hall : ((f.l ++ out).map rowC).length = f.l.length + out.length := by rw [List.length_map, List.length_append]
  obtain ⟨f1, f2, f3⟩ := hf
  simp only [Fm.av] at hc ⊢
  rw [G_body hx.clear rfl Try.func46 rfl Try.results46 hv_46 rfl]
  simp (config := { maxSteps := 4000000 }) (disch := first | (intros; contradiction) | omega) only [go_sem, hc, hfit, hr0, hr1]
  rw [← List.map_append]
  generalize hL : loopA _ _ _ = L
  apply range_upd hL (by simp (config := { maxSteps := 4000000 }) (disch := first | (intros; contradiction) | omega) only [go_sem] <;> rfl) (f.l ++ out) rowC (α := Unit) (fun rest k _ => k ≤ e) (fun k _ => [(8, .d (.int .i64 k))]) (fun _ _ => []) () (by simp (config := { maxSteps := 4000000 }) (disch := first | (intros; contradiction) | omega) only [go_sem] <;> rfl) (Nat.zero_le _) ?_ ?_
  · rintro c rest k _ i1 hlt hrow hget hk _ next ih
    clear hL
    simp only [rowC] at hrow
    have hk0 : (0 : Int) ≤ (k : Int) := by omega
    have hcl : (c.map rowI).length = c.length := List.length_map _
    have hkl : k < f.l.length + out.length := by rw [← List.length_append]; exact hk
    have hck : c = cl f.l out (k : Int) := by
      have := cl_at hkl
      rw [hget] at this
      exact Option.some.inj this
    by_cases he : k = e
    · subst he
      have hc0 : c = [] := hck.trans f2
      subst hc0
      have h0 : (((List.map rowI []).length : Nat) : Int) = 0 := rfl
      simp (config := { maxSteps := 4000000 }) (disch := first | (intros; contradiction) | omega) only [go_sem, hlt, hrow, hk0, List.map_nil, List.length_nil]
      done
    · have hc0 : c ≠ [] := by rw [hck]; exact f3 k (by omega)
      have h0 : ¬ (((c.map rowI).length : Nat) : Int) = 0 := by
        rw [hcl]
        have := List.length_pos_iff.2 hc0
        omega
      simp (config := { maxSteps := 4000000 }) (disch := first | (intros; contradiction) | omega) only [go_sem, hlt, hrow, hk0, h0, wrap64]
      exact ih () _ (by omega) (by simp (config := { maxSteps := 4000000 }) (disch := first | (intros; contradiction) | omega) only [go_sem] <;> rfl)
  · rintro k _ i1 hlt hk next
    rw [List.length_append] at hk
    omega
theorem rcheck_e (hx : TX ext) (f : Fm) (hs : Short f) (hr : rightP f = true) (l : List Ps) (hl : l.length ≤ 10000) (out : List (List Int)) (hok : Ok f.l l out) (hrl : RightL f.n.toNat (f.l ++ out)) (hn : f.n.toNat ≤ 100000) (hlen : ∀ c, c ∈ f.l ++ out → c.length ≤ 40000) (hon : ∀ s, s ∈ l → s.on ≤ 100000) (e : Nat) (hf : First f.l out e) :
    G ext 16 [f.av, .d (.sl (l.map rowS))] [] = some (.ret (.d (.bool true)), []) := by
  have he := rempty_e hx f hs hr l hl out hok hrl hn hlen hon e hf
  have h0 : (0 : Int) ≤ (e : Int) := by omega
  simp only [Fm.av] at he ⊢
  rw [G_body hx.clear rfl Try.func16 rfl Try.results16 hv_16 rfl]
  simp (config := { maxSteps := 4000000 }) (disch := first | (intros; contradiction) | omega) only [go_sem, he, h0]
/-- An empty clause: there is a first one. -/
theorem first_of {fl out : List (List Int)} {c : Nat} (hc : c < (fl ++ out).length) (h : (fl ++ out).getD c [] = []) : ∃ e, First fl out e := by
  have hc' : c < fl.length + out.length := by rwa [List.length_append] at hc
  have hex : ∃ k : Nat, k < fl.length + out.length ∧ cl fl out (k : Int) = [] := ⟨c, hc', by unfold cl; rw [Int.toNat_natCast]; exact h⟩
  clear h hc hc'
  obtain ⟨k, h1, h2⟩ := hex
  induction k using Nat.strongRecOn with
  | ind k ih =>
    by_cases hlow : ∃ i : Nat, i < k ∧ cl fl out (i : Int) = []
    · obtain ⟨i, i1, i2⟩ := hlow
      exact ih i i1 (by omega) i2
    · exact ⟨k, h1, h2, fun i hi hn => hlow ⟨i, hi, hn⟩⟩
end Go.Proofs.Ytchedkjlhjfadaa
