/- slices.Compact of numbers. Conditions: none. -/
import Derived.Test.YtchedkjlhjfadaaC2
set_option linter.unusedSimpArgs false
set_option linter.unusedVariables false
namespace Go.Proofs.Ytchedkjlhjfadaa
open Go Go.Ab
variable {ext : Sem'}
/-- Of numbers that stand side by side, one of each. -/
def dd : List Int → List Int
  | [] => []
  | [x] => [x]
  | x :: y :: l => if x = y then dd (y :: l) else x :: dd (y :: l)
theorem dd_snoc : ∀ (l : List Int) (x y : Int), dd (l ++ [x] ++ [y]) = if x = y then dd (l ++ [x]) else dd (l ++ [x]) ++ [y]
  | [], x, y => by simp only [List.nil_append, List.cons_append, dd]; split <;> simp [*]
  | [a], x, y => by
    simp only [List.cons_append, List.nil_append, dd]
    split <;> split <;> simp [*]
  | a :: b :: l, x, y => by
    have h := dd_snoc (b :: l) x y
    simp only [List.cons_append, dd] at h ⊢
    rw [h]
    split <;> split <;> simp [*]
theorem dd_next {l : List Int} {k : Nat} {x y : Int} (hk : 0 < k) (hx : l[k - 1]? = some x) (hy : l[k]? = some y) : dd (l.take (k + 1)) = if x = y then dd (l.take k) else dd (l.take k) ++ [y] := by
  obtain ⟨n, rfl⟩ : ∃ n, k = n + 1 := ⟨k - 1, by omega⟩
  have h1 := (List.getElem?_eq_some_iff.1 hx).1
  have h2 := (List.getElem?_eq_some_iff.1 hy).1
  simp only [Nat.add_sub_cancel] at hx h1
  have e1 : l.take (n + 1) = l.take n ++ [x] := by
    rw [List.take_succ_eq_append_getElem h1]
    rw [List.getElem?_eq_getElem h1] at hx
    simp only [Option.some.injEq] at hx
    rw [hx]
  have e2 : l.take (n + 1 + 1) = l.take (n + 1) ++ [y] := by
    rw [List.take_succ_eq_append_getElem h2]
    rw [List.getElem?_eq_getElem h2] at hy
    simp only [Option.some.injEq] at hy
    rw [hy]
  rw [e2, e1, dd_snoc]
set_option maxHeartbeats 2000000 in
theorem compact0_e (hx : TX ext) : G ext 107 [.d (.sl [])] [] = some (.ret (.d (.sl [])), []) := by
  rw [G_body hx.clear rfl Try.func107 rfl Try.results107 hv_107 rfl]
  simp (config := { maxSteps := 4000000 }) (disch := first | (intros; contradiction) | omega) only [go_sem]
set_option maxHeartbeats 4000000 in
theorem compact1_e (hx : TX ext) (l : List Int) (hl : l.length ≤ 1000000) : G ext 107 [.own 0 0 l.length 1] [.cells (l.map avI)] = some (.ret (.d (.sl ((dd l).map rowI))), [.no]) := by
  have hll : (l.map avI).length = l.length := List.length_map _
  have a1 := fun l => av_refs l
  have a2 := fun l f => av_ren f l
  have hch := chunk_ints
  have hg := give_first l []
  rw [List.append_nil] at hg
  rw [G_body hx.clear rfl Try.func107 rfl Try.results107 hv_107 rfl]
  by_cases h2 : (l.length : Int) < 2
  · have hd : dd l = l := by
      match l, h2 with
      | [], _ => rfl
      | [x], _ => rfl
      | _ :: _ :: _, h => simp at h; omega
    rw [hd]
    simp (config := { maxSteps := 4000000 }) (disch := first | (intros; contradiction) | omega) only [go_sem, a1, a2, h2, hg, hch, Nat.mul_one]
  · simp (config := { maxSteps := 4000000 }) (disch := first | (intros; contradiction) | omega) only [go_sem, a1, a2, h2, Nat.mul_one]
    generalize hL : loopA _ _ _ = L
    apply loop_upd hL (by simp (config := { maxSteps := 4000000 }) (disch := first | (intros; contradiction) | omega) only [go_sem, a1, a2] <;> rfl) (fun k : Nat => 0 < k ∧ k ≤ l.length ∧ dd (l.take k) = l.take k) (fun k => l.length - k)
      (fun k => [(3, .d (.int .i64 k)), (4, .any), (5, .any)]) (fun _ => []) 1 (by simp (config := { maxSteps := 4000000 }) (disch := first | (intros; contradiction) | omega) only [go_sem, a1, a2] <;> rfl) ⟨by decide, by omega, ?_⟩ ?_
    · cases l with
      | nil => rfl
      | cons x l => rfl
    · rintro k ⟨k1, k2, k3⟩ next ih
      clear hL
      by_cases hk : k < l.length
      · have hlt : (k : Int) < (l.length : Int) := by omega
        have hk0 : k - 1 < l.length := by omega
        have hr1 : (l.map avI)[k]? = some (.d (.int .i64 l[k])) := by rw [map_at hk]; rfl
        have hr0 : (l.map avI)[k - 1]? = some (.d (.int .i64 l[k - 1])) := by rw [map_at hk0]; rfl
        have hn := dd_next k1 (List.getElem?_eq_getElem hk0) (List.getElem?_eq_getElem hk)
        have c0 : 0 ≤ (k : Int) - 1 := by omega
        have c1 : (k : Int) - 1 < (l.length : Int) := by omega
        have c2 : ((k : Int) - 1).toNat = k - 1 := by omega
        have htk := List.take_succ_eq_append_getElem hk
        generalize l[k] = y at hr1 hn htk
        generalize l[k - 1] = x at hr0 hn
        by_cases hxy : y = x
        · subst hxy
          rw [if_pos rfl] at hn
          have c3 : (k : Int) ≤ (l.length : Int) := by omega
          simp (config := { maxSteps := 4000000 }) (disch := first | (intros; contradiction) | omega) only [go_sem, a1, a2, hlt, c0, c1, c2, c3, hr1, hr0, wrap64, Nat.mul_one]
          generalize hL : loopA _ _ _ = L
          apply loop_upd hL (by simp (config := { maxSteps := 4000000 }) (disch := first | (intros; contradiction) | omega) only [go_sem, a1, a2] <;> rfl) (fun s : Nat × Nat × List Int => s.2.2.length = l.length ∧ k ≤ s.1 ∧ s.1 + 1 ≤ k + s.2.1 ∧ k + s.2.1 ≤ l.length ∧ 0 < s.2.1 ∧ s.2.2.take s.1 = dd (l.take (k + s.2.1)) ∧ s.2.2.drop (k + s.2.1 - 1) = l.drop (k + s.2.1 - 1)) (fun s => l.length - s.2.1)
            (fun s => [(3, .d (.int .i64 s.1)), (5, .d (.int .i64 s.2.1))]) (fun s => [(0, .cells (s.2.2.map avI))]) (k, 1, l) (by simp (config := { maxSteps := 4000000 }) (disch := first | (intros; contradiction) | omega) only [go_sem, a1, a2] <;> rfl) ⟨rfl, Nat.le_refl _, Nat.le_refl _, hk, Nat.one_pos, by simp only; rw [hn, k3], rfl⟩ ?_
          rintro ⟨a, j, cur⟩ ⟨i1, i2, i3, i4, i5, i6, i7⟩ next2 ih2
          clear hL
          simp only at i1 i2 i3 i4 i5 i6 i7 ih2 ⊢
          have hcl : (cur.map avI).length = l.length := by simp [i1]
          by_cases hj : k + j < l.length
          · have hlt2 : (j : Int) < ((l.length - k : Nat) : Int) := by omega
            have hj0 : k + j - 1 < l.length := by omega
            have hcj0 : cur[k + j - 1]? = some l[k + j - 1] := by
              have := congrArg (fun m => m[0]?) i7
              simpa [List.getElem?_eq_getElem hj0] using this
            have hcj : cur[k + j]? = some l[k + j] := by
              have := congrArg (fun m => m[1]?) i7
              rw [List.getElem?_drop, List.getElem?_drop, show k + j - 1 + 1 = k + j by omega, List.getElem?_eq_getElem hj] at this
              exact this
            have hs1 : (cur.map avI)[k + j]? = some (.d (.int .i64 l[k + j])) := by rw [List.getElem?_map, hcj]; rfl
            have hs0 : (cur.map avI)[k + (j - 1)]? = some (.d (.int .i64 l[k + j - 1])) := by rw [show k + (j - 1) = k + j - 1 by omega, List.getElem?_map, hcj0]; rfl
            have hn2 := dd_next (show 0 < k + j by omega) (List.getElem?_eq_getElem hj0) (List.getElem?_eq_getElem hj)
            have hdr : cur.drop (k + j) = l.drop (k + j) := by
              have := congrArg (List.drop 1) i7
              simp only [List.drop_drop] at this
              rwa [show k + j - 1 + 1 = k + j by omega] at this
            generalize l[k + j] = u at hs1 hn2
            generalize l[k + j - 1] = v at hs0 hn2
            have d0 : 0 ≤ (j : Int) - 1 := by omega
            have d1 : (j : Int) - 1 < ((l.length - k : Nat) : Int) := by omega
            have d2 : ((j : Int) - 1).toNat = j - 1 := by omega
            by_cases huv : u = v
            · subst huv
              rw [if_pos rfl] at hn2
              simp (config := { maxSteps := 4000000 }) (disch := first | (intros; contradiction) | omega) only [go_sem, a1, a2, hlt2, d0, d1, d2, hs1, hs0, wrap64, Nat.mul_one]
              exact ih2 (a, j + 1, cur) _ ⟨i1, i2, by simp only; omega, by simp only; omega, by simp only; omega, by simp only; rw [i6, ← hn2]; rfl, by simp only; exact hdr⟩ (by simp only; omega) (by simp (config := { maxSteps := 4000000 }) (disch := first | (intros; contradiction) | omega) only [go_sem, a1, a2] <;> rfl)
            · rw [if_neg (fun h => huv h.symm)] at hn2
              have e1 : (a : Int) < (l.length : Int) := by omega
              have e2 : a + 1 ≤ (cur.map avI).length := by omega
              have e3 : a < cur.length := by omega
              simp (config := { maxSteps := 4000000 }) (disch := first | (intros; contradiction) | omega) only [go_sem, a1, a2, hlt2, d0, d1, d2, hs1, hs0, huv, e1, e2, wrap64, Nat.mul_one]
              rw [set_av e3]
              refine ih2 (a + 1, j + 1, cur.set a u) _ ⟨by simp [i1], by simp only; omega, by simp only; omega, by simp only; omega, by simp only; omega, ?_, ?_⟩ (by simp only; omega) (by simp (config := { maxSteps := 4000000 }) (disch := first | (intros; contradiction) | omega) only [go_sem, a1, a2] <;> rfl)
              · simp only
                rw [List.take_succ_eq_append_getElem (by simpa using e3), take_set_same, i6, show k + (j + 1) = k + j + 1 by omega, hn2]
                simp
              · simp only
                rw [show k + (j + 1) - 1 = k + j by omega, List.drop_set_of_lt (by omega)]
                exact hdr
          · have hlt2 : ¬ (j : Int) < ((l.length - k : Nat) : Int) := by omega
            have hjl : k + j = l.length := by omega
            rw [hjl, List.take_length] at i6
            rw [← i6]
            have hA : (cur.take a).length = a := by simp; omega
            have f1 : 0 ≤ (a : Int) := by omega
            have f2 : (a : Int) ≤ (l.length : Int) := by omega
            have f3 : ¬ l.length - a = 0 := by omega
            have f4 : a + (l.length - a) ≤ (cur.map avI).length := by omega
            simp (config := { maxSteps := 4000000 }) (disch := first | (intros; contradiction) | omega) only [go_sem, a1, a2, hlt2, f1, f2, f3, f4, Nat.mul_one]
            rw [give_cut _ _ (by omega)]
            have hch2 := chunk_ints (cur.take a)
            rw [hA] at hch2
            simp (config := { maxSteps := 4000000 }) (disch := first | (intros; contradiction) | omega) only [go_sem, a1, a2, hch2]
        · rw [if_neg (fun h => hxy h.symm), k3] at hn
          simp (config := { maxSteps := 4000000 }) (disch := first | (intros; contradiction) | omega) only [go_sem, a1, a2, hlt, c0, c1, c2, hr1, hr0, hxy, wrap64, Nat.mul_one]
          exact ih (k + 1) _ ⟨by omega, hk, by rw [hn, htk]⟩ (by omega) (by simp (config := { maxSteps := 4000000 }) (disch := first | (intros; contradiction) | omega) only [go_sem, a1, a2] <;> rfl)
      · have hlt : ¬ (k : Int) < (l.length : Int) := by omega
        have : k = l.length := by omega
        subst this
        rw [List.take_length] at k3
        rw [k3]
        simp (config := { maxSteps := 4000000 }) (disch := first | (intros; contradiction) | omega) only [go_sem, a1, a2, hlt, hg, hch, Nat.mul_one]
end Go.Proofs.Ytchedkjlhjfadaa
