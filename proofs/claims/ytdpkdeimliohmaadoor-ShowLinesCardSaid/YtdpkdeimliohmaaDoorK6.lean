/- The document's text of a statement. Conditions: none. -/
import Derived.Test.YtdpkdeimliohmaaDoorK3
import Derived.Test.YtdpkdeimliohmaaDoorK5
set_option linter.unusedSimpArgs false
set_option linter.unusedVariables false
namespace Go.Proofs.YtdpkdeimliohmaaDoor
open Go Go.Ab
variable {ext : Sem'}
theorem dpad_e (hx : T3 ext) (n : Nat) (hn : n ≤ 4000) : G ext 23 [.d (.int .i64 n)] [] = some (.ret (.d (.str (padP n))), []) := by
  rw [G_body hx.clear rfl Tryd.func23 rfl Tryd.results23 hv_23 rfl]
  simp (maxSteps := 4000000) (disch := first | (intros; contradiction) | omega) only [go_sem]
  generalize hL : loopA _ _ _ = L
  apply loop_upd hL (by simp (maxSteps := 4000000) (disch := first | (intros; contradiction) | omega) only [go_sem] <;> rfl) (fun k : Nat => k ≤ n) (fun k => n - k) (fun k => [(3, .d (.str (padP k))), (4, .d (.int .i64 k))]) (fun _ => []) 0 (by simp (maxSteps := 4000000) (disch := first | (intros; contradiction) | omega) only [go_sem] <;> rfl) (Nat.zero_le _) ?_
  clear hL
  intro k hk next ih
  by_cases h : (k : Int) < (n : Int)
  · have h' := eq_true h
    have hwk : IntKind.wrap .i64 ((k : Int) + 1) = ((k + 1 : Nat) : Int) := by rw [wrap64 (by omega) (by omega)]; omega
    have hl := padP_len k
    have hs := padP_succ k
    simp (maxSteps := 4000000) (disch := first | (intros; contradiction) | omega) only [go_sem, h', hwk, if_le]
    exact ih (k + 1) _ (by omega) (by omega) (by simp (maxSteps := 4000000) (disch := first | (intros; contradiction) | omega) only [go_sem, hs] <;> rfl)
  · have : k = n := by omega
    subst this
    simp (maxSteps := 4000000) (disch := first | (intros; contradiction) | omega) only [go_sem, h]
    done
def ShS (ext : Sem') (n : Nat) (s : St0) : Prop := G ext 11 [s.agg, .d (.int .i64 n)] [] = some (.ret (.d (.str (txtL (linS n s)))), [])
theorem lin_room {n : Nat} {s : St0} (h : n + sizS s ≤ 4000) (ho : okS s) : (txtL (linS n s)).length ≤ 200000000 := by
  have := linS_len 4000 44000 rfl n s h ho
  have : 44000 * sizS s ≤ 44000 * 4000 := Nat.mul_le_mul_left _ (by omega)
  unfold lenL at *
  omega
theorem linl_room {n : Nat} {l : List St0} (h : n + sizL l ≤ 4000) (ho : okSs l) : (txtL (linL n l)).length ≤ 200000000 := by
  have := linL_len 4000 44000 rfl n l h ho
  have : 44000 * sizL l ≤ 44000 * 4000 := Nat.mul_le_mul_left _ (by omega)
  unfold lenL at *
  omega
theorem sizL_pre {a b : List St0} : sizL a ≤ sizL (a ++ b) := by rw [sizL_append]; omega
theorem okSs_pre {a b : List St0} (h : okSs (a ++ b)) : okSs a := by
  induction a with
  | nil => trivial
  | cons x a ih => exact ⟨h.1, ih h.2⟩
theorem linL_snoc (n : Nat) (a : List St0) (x : St0) : txtL (linL n (a ++ [x])) = txtL (linL n a) ++ txtL (linS n x) := by
  rw [linL_append, txtL_append]; simp [linL]
set_option maxHeartbeats 1000000 in
theorem dblock_e (hx : T3 ext) (n : Nat) (l : List St0) (hb : n + sizL l ≤ 4000) (ho : okSs l) (hS : ∀ s, s ∈ l → ShS ext n s) : G ext 24 [.d (.sl (l.map St0.row)), .d (.int .i64 n)] [] = some (.ret (.d (.str (txtL (linL n l)))), []) := by
  have hll : (l.map St0.row).length = l.length := List.length_map _
  have hkl := sizL_len l
  rw [G_body hx.clear rfl Tryd.func24 rfl Tryd.results24 hv_24 rfl]
  simp (maxSteps := 4000000) (disch := first | (intros; contradiction) | omega) only [go_sem]
  generalize hL : loopA _ _ _ = L
  apply range_upd hL (by simp (maxSteps := 4000000) (disch := first | (intros; contradiction) | omega) only [go_sem] <;> rfl) l St0.row (α := List St0) (fun rest k a => a ++ rest = l ∧ a.length = k) (fun k a => [(5, .d (.str (txtL (linL n a)))), (6, .d (.int .i64 k))]) (fun _ _ => []) [] (by simp (maxSteps := 4000000) (disch := first | (intros; contradiction) | omega) only [go_sem] <;> rfl) ⟨rfl, rfl⟩ ?_ ?_
  · intro x rest k' a hi hlt hr hxx hk _ next ih2
    clear hL
    obtain ⟨hi1, hi2⟩ := hi
    have hmem := List.mem_of_getElem? hxx
    have c1 := hS x hmem
    have hax : (a ++ [x]) ++ rest = l := by rw [← hi1]; simp
    have hpa : n + sizL (a ++ [x]) ≤ 4000 := by rw [← hax] at hb; have := @sizL_pre (a ++ [x]) rest; omega
    have hoa : okSs (a ++ [x]) := by rw [← hax] at ho; exact okSs_pre ho
    have l1 := linl_room hpa hoa
    rw [linL_snoc, List.length_append] at l1
    have hcs := linL_snoc n a x
    rw [St0.row_eq] at hr
    unfold ShS St0.agg at c1
    generalize txtL (linS n x) = tx at *
    have hk0 : (0 : Int) ≤ (k' : Int) := by omega
    have hwk : IntKind.wrap .i64 ((k' : Int) + 1) = ((k' + 1 : Nat) : Int) := by rw [wrap64 (by omega) (by omega)]; omega
    simp (maxSteps := 4000000) (disch := first | (intros; contradiction) | omega) only [go_sem, hlt, hr, hk0, c1, hwk, if_le]
    exact ih2 (a ++ [x]) _ ⟨hax, by simp [hi2]⟩ (by simp (maxSteps := 4000000) (disch := first | (intros; contradiction) | omega) only [go_sem, hcs] <;> rfl)
  · intro k' a hi hlt hk next
    clear hL
    obtain ⟨hi1, hi2⟩ := hi
    rw [List.append_nil] at hi1
    subst hi1
    simp (maxSteps := 4000000) (disch := first | (intros; contradiction) | omega) only [go_sem, hlt]
    done
theorem exp_room {s : St0} (h : sizS s ≤ 4000) (ho : okS s) (hx : T3 ext) : ∀ x, x ∈ s.e → ShE ext 13 x ∧ (showE x).length ≤ 30000000 := fun x hm => by
  have h1 := sizS_eq s
  have h2 := cntEs_mem hm
  rw [okS_eq] at ho
  have h3 := okEs_mem ho.2.2.1 hm
  exact ⟨dexpr_e hx (cntE x) x (Nat.le_refl _) (by omega) h3, by have := showE_len (cntE x) x (Nat.le_refl _) h3; omega⟩
set_option maxHeartbeats 4000000 in
theorem dstmt1_e (hx : T3 ext) (n : Nat) (s : St0) (hb : n + sizS s ≤ 4000) (ho : okS s) (hB : ∀ l, l = s.body ∨ l = s.els → G ext 24 [.d (.sl (l.map St0.row)), .d (.int .i64 ((n + 1 : Nat) : Int))] [] = some (.ret (.d (.str (txtL (linL (n + 1) l)))), [])) : ShS ext n s := by
  have hE := exp_room (by omega) ho hx
  have hB1 := hB s.body (.inl rfl)
  have hB2 := hB s.els (.inr rfl)
  have hse := sizS_eq s
  rw [okS_eq] at ho
  obtain ⟨⟨h1, h2⟩, ⟨h3, h4, h5, h6, h7⟩, h8, h9, h10, h11⟩ := ho
  have r1 := linl_room (n := n + 1) (l := s.body) (by omega) h10
  have r2 := linl_room (n := n + 1) (l := s.els) (by omega) h11
  have hll : (s.els.map St0.row).length = s.els.length := List.length_map _
  have hpd := dpad_e hx n (by omega)
  have hpl := padP_len n
  have hty := rtype_e hx s.t h1
  have htl := typ_len h1
  replace h2 := h2.1
  unfold ShS
  rw [linS_eq]
  unfold St0.agg
  unfold Tp.av at hty
  have hwn : IntKind.wrap .i64 ((n : Int) + 1) = ((n + 1 : Nat) : Int) := by rw [wrap64 (by omega) (by omega)]; omega
  by_cases k1 : s.kind = 1
  · have q := eq_true k1
    obtain ⟨x, hxe⟩ := len_one (h3 (by omega))
    obtain ⟨x1, x2⟩ := hE x (by rw [hxe]; simp)
    unfold ShE Ex0.agg at x1
    rw [hxe, one_row]
    simp only [List.map_cons, List.map_nil, List.getD_cons_zero]
    generalize showE x = t0 at *
    have ht : txtL (linK n s.kind s.t s.name [t0] (linL (n + 1) s.body) (linL (n + 1) s.els) (decide (0 < s.els.length))) = padP n ++ typT s.t ++ [32] ++ s.name ++ [32, 61, 32] ++ t0 ++ [59, 10] := by
      rw [k1]; unfold linK; simp [txtL]
    rw [ht]
    clear ht
    rw [G_body hx.clear rfl Tryd.func11 rfl Tryd.results11 hv_11 rfl]
    simp (maxSteps := 4000000) (disch := first | (intros; contradiction) | omega) only [go_sem, hpd, q, hty, x1, if_le]
    done
  by_cases k2 : s.kind = 2
  · have q := eq_true k2
    obtain ⟨x, hxe⟩ := len_one (h3 (by omega))
    obtain ⟨x1, x2⟩ := hE x (by rw [hxe]; simp)
    unfold ShE Ex0.agg at x1
    rw [hxe, one_row]
    simp only [List.map_cons, List.map_nil, List.getD_cons_zero]
    generalize showE x = t0 at *
    have ht : txtL (linK n s.kind s.t s.name [t0] (linL (n + 1) s.body) (linL (n + 1) s.els) (decide (0 < s.els.length))) = padP n ++ s.name ++ [32, 61, 32] ++ t0 ++ [59, 10] := by
      rw [k2]; unfold linK; simp [txtL]
    rw [ht]
    clear ht
    rw [G_body hx.clear rfl Tryd.func11 rfl Tryd.results11 hv_11 rfl]
    simp (maxSteps := 4000000) (disch := first | (intros; contradiction) | omega) only [go_sem, hpd, q, k1, x1, if_le]
    done
  by_cases k3 : s.kind = 3
  · have q := eq_true k3
    obtain ⟨x, y, hxe⟩ := len_two (h4 k3)
    obtain ⟨x1, x2⟩ := hE x (by rw [hxe]; simp)
    obtain ⟨y1, y2⟩ := hE y (by rw [hxe]; simp)
    unfold ShE Ex0.agg at x1 y1
    rw [hxe, two_row]
    simp only [List.map_cons, List.map_nil, List.getD_cons_zero, List.getD_cons_succ]
    generalize showE x = t0 at *
    generalize showE y = t1 at *
    have ht : txtL (linK n s.kind s.t s.name [t0, t1] (linL (n + 1) s.body) (linL (n + 1) s.els) (decide (0 < s.els.length))) = padP n ++ t0 ++ [45, 62] ++ s.name ++ [32, 61, 32] ++ t1 ++ [59, 10] := by
      rw [k3]; unfold linK; simp [txtL]
    rw [ht]
    clear ht
    rw [G_body hx.clear rfl Tryd.func11 rfl Tryd.results11 hv_11 rfl]
    simp (maxSteps := 4000000) (disch := first | (intros; contradiction) | omega) only [go_sem, hpd, q, k1, k2, x1, y1, if_le]
    done
  by_cases k4 : s.kind = 4
  · have q := eq_true k4
    obtain ⟨x, hxe⟩ := len_one (h3 (by omega))
    obtain ⟨x1, x2⟩ := hE x (by rw [hxe]; simp)
    unfold ShE Ex0.agg at x1
    rw [hxe, one_row]
    simp only [List.map_cons, List.map_nil, List.getD_cons_zero]
    generalize showE x = t0 at *
    by_cases hel : 0 < s.els.length
    · have hel' : ((0 : Int) < ((s.els.map St0.row).length : Int)) = True := eq_true (by rw [hll]; omega)
      have ht : txtL (linK n s.kind s.t s.name [t0] (linL (n + 1) s.body) (linL (n + 1) s.els) (decide (0 < s.els.length))) = padP n ++ [105, 102, 32, 40] ++ t0 ++ [41, 32, 123, 10] ++ txtL (linL (n + 1) s.body) ++ padP n ++ [125, 32, 101, 108, 115, 101, 32, 123, 10] ++ txtL (linL (n + 1) s.els) ++ padP n ++ [125, 10] := by
        rw [k4]; unfold linK; simp [txtL, hel]
      rw [ht]
      clear ht
      generalize txtL (linL (n + 1) s.body) = tb at *
      generalize txtL (linL (n + 1) s.els) = tl at *
      rw [G_body hx.clear rfl Tryd.func11 rfl Tryd.results11 hv_11 rfl]
      simp (maxSteps := 4000000) (disch := first | (intros; contradiction) | omega) only [go_sem, hpd, q, k1, k2, k3, x1, hwn, hB1, hB2, hel', if_le]
      done
    · have hel' : ¬ ((0 : Int) < ((s.els.map St0.row).length : Int)) := by rw [hll]; omega
      have ht : txtL (linK n s.kind s.t s.name [t0] (linL (n + 1) s.body) (linL (n + 1) s.els) (decide (0 < s.els.length))) = padP n ++ [105, 102, 32, 40] ++ t0 ++ [41, 32, 123, 10] ++ txtL (linL (n + 1) s.body) ++ padP n ++ [125, 10] := by
        rw [k4]; unfold linK; simp [txtL, hel]
      rw [ht]
      clear ht
      generalize txtL (linL (n + 1) s.body) = tb at *
      rw [G_body hx.clear rfl Tryd.func11 rfl Tryd.results11 hv_11 rfl]
      simp (maxSteps := 4000000) (disch := first | (intros; contradiction) | omega) only [go_sem, hpd, q, k1, k2, k3, x1, hwn, hB1, hel', if_le]
      done
  by_cases k5 : s.kind = 5
  · have q := eq_true k5
    obtain ⟨x, hxe⟩ := len_one (h3 (by omega))
    obtain ⟨x1, x2⟩ := hE x (by rw [hxe]; simp)
    unfold ShE Ex0.agg at x1
    rw [hxe, one_row]
    simp only [List.map_cons, List.map_nil, List.getD_cons_zero]
    generalize showE x = t0 at *
    have ht : txtL (linK n s.kind s.t s.name [t0] (linL (n + 1) s.body) (linL (n + 1) s.els) (decide (0 < s.els.length))) = padP n ++ [119, 104, 105, 108, 101, 32, 40] ++ t0 ++ [41, 32, 123, 10] ++ txtL (linL (n + 1) s.body) ++ padP n ++ [125, 10] := by
      rw [k5]; unfold linK; simp [txtL]
    rw [ht]
    clear ht
    generalize txtL (linL (n + 1) s.body) = tb at *
    rw [G_body hx.clear rfl Tryd.func11 rfl Tryd.results11 hv_11 rfl]
    simp (maxSteps := 4000000) (disch := first | (intros; contradiction) | omega) only [go_sem, hpd, q, k1, k2, k3, k4, hwn, hB1, x1, if_le]
    done
  by_cases k6 : s.kind = 6
  · have q := eq_true k6
    have ht : txtL (linK n s.kind s.t s.name (s.e.map showE) (linL (n + 1) s.body) (linL (n + 1) s.els) (decide (0 < s.els.length))) = padP n ++ [98, 114, 101, 97, 107, 59, 10] := by
      rw [k6]; unfold linK; simp [txtL]
    rw [ht]
    clear ht
    rw [G_body hx.clear rfl Tryd.func11 rfl Tryd.results11 hv_11 rfl]
    simp (maxSteps := 4000000) (disch := first | (intros; contradiction) | omega) only [go_sem, hpd, q, k1, k2, k3, k4, k5, if_le]
    done
  by_cases k7 : s.kind = 7
  · have q := eq_true k7
    have ht : txtL (linK n s.kind s.t s.name (s.e.map showE) (linL (n + 1) s.body) (linL (n + 1) s.els) (decide (0 < s.els.length))) = padP n ++ [99, 111, 110, 116, 105, 110, 117, 101, 59, 10] := by
      rw [k7]; unfold linK; simp [txtL]
    rw [ht]
    clear ht
    rw [G_body hx.clear rfl Tryd.func11 rfl Tryd.results11 hv_11 rfl]
    simp (maxSteps := 4000000) (disch := first | (intros; contradiction) | omega) only [go_sem, hpd, q, k1, k2, k3, k4, k5, k6, if_le]
    done
  by_cases k8 : s.kind = 8
  · have q := eq_true k8
    obtain ⟨x, hxe⟩ := len_one (h3 (by omega))
    obtain ⟨x1, x2⟩ := hE x (by rw [hxe]; simp)
    unfold ShE Ex0.agg at x1
    rw [hxe, one_row]
    simp only [List.map_cons, List.map_nil, List.getD_cons_zero]
    generalize showE x = t0 at *
    have ht : txtL (linK n s.kind s.t s.name [t0] (linL (n + 1) s.body) (linL (n + 1) s.els) (decide (0 < s.els.length))) = padP n ++ [114, 101, 116, 117, 114, 110, 32] ++ t0 ++ [59, 10] := by
      rw [k8]; unfold linK; simp [txtL]
    rw [ht]
    clear ht
    rw [G_body hx.clear rfl Tryd.func11 rfl Tryd.results11 hv_11 rfl]
    simp (maxSteps := 4000000) (disch := first | (intros; contradiction) | omega) only [go_sem, hpd, q, k1, k2, k3, k4, k5, k6, k7, x1, if_le]
    done
  by_cases k9 : s.kind = 9
  · have q := eq_true k9
    have ht : txtL (linK n s.kind s.t s.name (s.e.map showE) (linL (n + 1) s.body) (linL (n + 1) s.els) (decide (0 < s.els.length))) = padP n ++ [102, 114, 101, 101, 40] ++ s.name ++ [41, 59, 10] := by
      rw [k9]; unfold linK; simp [txtL]
    rw [ht]
    clear ht
    rw [G_body hx.clear rfl Tryd.func11 rfl Tryd.results11 hv_11 rfl]
    simp (maxSteps := 4000000) (disch := first | (intros; contradiction) | omega) only [go_sem, hpd, q, k1, k2, k3, k4, k5, k6, k7, k8, if_le]
    done
  by_cases k10 : s.kind = 10
  · have q := eq_true k10
    obtain ⟨x, hxe⟩ := len_one (h3 (by omega))
    obtain ⟨x1, x2⟩ := hE x (by rw [hxe]; simp)
    unfold ShE Ex0.agg at x1
    rw [hxe, one_row]
    simp only [List.map_cons, List.map_nil, List.getD_cons_zero]
    generalize showE x = t0 at *
    have ht : txtL (linK n s.kind s.t s.name [t0] (linL (n + 1) s.body) (linL (n + 1) s.els) (decide (0 < s.els.length))) = padP n ++ [112, 117, 116, 40] ++ t0 ++ [41, 59, 10] := by
      rw [k10]; unfold linK; simp [txtL]
    rw [ht]
    clear ht
    rw [G_body hx.clear rfl Tryd.func11 rfl Tryd.results11 hv_11 rfl]
    simp (maxSteps := 4000000) (disch := first | (intros; contradiction) | omega) only [go_sem, hpd, q, k1, k2, k3, k4, k5, k6, k7, k8, k9, x1, if_le]
    done
  have k11 : s.kind = 11 := by omega
  obtain ⟨x, hxe⟩ := len_one (h3 (by omega))
  obtain ⟨x1, x2⟩ := hE x (by rw [hxe]; simp)
  unfold ShE Ex0.agg at x1
  rw [hxe, one_row]
  simp only [List.map_cons, List.map_nil, List.getD_cons_zero]
  generalize showE x = t0 at *
  have ht : txtL (linK n s.kind s.t s.name [t0] (linL (n + 1) s.body) (linL (n + 1) s.els) (decide (0 < s.els.length))) = padP n ++ t0 ++ [59, 10] := by
    rw [k11]; unfold linK; simp [txtL]
  rw [ht]
  clear ht
  rw [G_body hx.clear rfl Tryd.func11 rfl Tryd.results11 hv_11 rfl]
  simp (maxSteps := 4000000) (disch := first | (intros; contradiction) | omega) only [go_sem, hpd, k1, k2, k3, k4, k5, k6, k7, k8, k9, k10, x1, if_le]
  done
theorem dstmts_e (hx : T3 ext) : ∀ (m : Nat), (∀ (n : Nat) (s : St0), sizS s ≤ m → n + sizS s ≤ 4000 → okS s → ShS ext n s) ∧ (∀ (n : Nat) (l : List St0), sizL l ≤ m → n + sizL l ≤ 4000 → okSs l → G ext 24 [.d (.sl (l.map St0.row)), .d (.int .i64 n)] [] = some (.ret (.d (.str (txtL (linL n l)))), [])) := by
  intro m
  induction m with
  | zero =>
    refine ⟨fun n s h => by have := sizS_eq s; omega, fun n l h hb ho => dblock_e hx n l hb ho fun s hs => ?_⟩
    have := sizL_mem hs
    have := sizS_eq s
    omega
  | succ m ih =>
    have hS : ∀ (n : Nat) (s : St0), sizS s ≤ m + 1 → n + sizS s ≤ 4000 → okS s → ShS ext n s := fun n s h hb ho => by
      have hse := sizS_eq s
      have ho' := ho
      rw [okS_eq] at ho'
      refine dstmt1_e hx n s hb ho fun l hl => ?_
      rcases hl with rfl | rfl
      · exact ih.2 (n + 1) _ (by omega) (by omega) ho'.2.2.2.2.1
      · exact ih.2 (n + 1) _ (by omega) (by omega) ho'.2.2.2.2.2
    refine ⟨hS, fun n l h hb ho => dblock_e hx n l hb ho fun s hs => ?_⟩
    have := sizL_mem hs
    exact hS n s (by omega) (by omega) (okSs_mem ho hs)
end Go.Proofs.YtdpkdeimliohmaaDoor
