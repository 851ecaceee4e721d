/- The text of each part of any program. Conditions: none. -/
import Derived.Test.YtdpkdeimliohmaaDoorK12
set_option linter.unusedSimpArgs false
set_option linter.unusedVariables false
namespace Go.Proofs.YtdpkdeimliohmaaDoor
open Go Go.Ab
variable {ext : Sem'}
set_option maxHeartbeats 4000000 in
theorem parts_e (hx : T3 ext) (s : Str) (n : Int) : G ext 3 [.d (.str s), .d (.int .i64 n)] [] = some (.ret (.d (.bool true)), []) := by
  have ha := alive3_e hx
  by_cases h : (3000 : Int) < (s.length : Int)
  · have h' := eq_true h
    rw [G_body hx.clear rfl Tryd.func3 rfl Tryd.results3 hv_3 rfl]
    simp (maxSteps := 4000000) (disch := first | (intros; contradiction) | omega) only [go_sem, h', ha]
    done
  by_cases h2 : n < 0
  · have h2' := eq_true h2
    rw [G_body hx.clear rfl Tryd.func3 rfl Tryd.results3 hv_3 rfl]
    simp (maxSteps := 4000000) (disch := first | (intros; contradiction) | omega) only [go_sem, h, h2', ha]
    done
  by_cases h3 : 20 < n
  · have h3' := eq_true h3
    rw [G_body hx.clear rfl Tryd.func3 rfl Tryd.results3 hv_3 rfl]
    simp (maxSteps := 4000000) (disch := first | (intros; contradiction) | omega) only [go_sem, h, h2, h3', ha]
    done
  obtain ⟨m, rfl⟩ : ∃ m : Nat, n = (m : Int) := ⟨n.toNat, by omega⟩
  obtain ⟨p, d, ht, hp⟩ := rtext_e hx.toT0 s (by omega)
  have hfl : (p.funcs.map Fn0.row).length = p.funcs.length := List.length_map _
  have hnf := hp.funcs
  unfold Pr0.av Dg.av at ht
  rw [G_body hx.clear rfl Tryd.func3 rfl Tryd.results3 hv_3 rfl]
  simp (maxSteps := 4000000) (disch := first | (intros; contradiction) | omega) only [go_sem, h, h2, h3, ht]
  generalize hL : loopA _ _ _ = L
  apply range_upd hL (by simp (maxSteps := 4000000) (disch := first | (intros; contradiction) | omega) only [go_sem] <;> rfl) p.funcs Fn0.row (α := Unit) (fun rest k a => True) (fun k a => [(7, .d (.int .i64 k))]) (fun _ _ => []) () (by simp (maxSteps := 4000000) (disch := first | (intros; contradiction) | omega) only [go_sem] <;> rfl) trivial ?_ ?_
  · intro x rest k' _ _ hlt hr hxx hk _ next ih2
    clear hL
    have hmem := List.mem_of_getElem? hxx
    obtain ⟨n1, n2, n3⟩ := hp.fnm x hmem
    have hsz := szFn_mem hp hmem
    have hok := hp.ok x hmem
    have hty1 := stype_e hx x.ret n2
    have hty2 := rtype_e hx x.ret n2
    unfold Tp.av at hty1 hty2
    have hbl : (x.body.map St0.row).length = x.body.length := List.length_map _
    have hbk := sizL_len x.body
    rw [Fn0.row] at hr
    have hk0 : (0 : Int) ≤ (k' : Int) := by omega
    have hwk : IntKind.wrap .i64 ((k' : Int) + 1) = ((k' + 1 : Nat) : Int) := by rw [wrap64 (by omega) (by omega)]; omega
    simp (maxSteps := 4000000) (disch := first | (intros; contradiction) | omega) only [go_sem, hlt, hr, hk0, hty1, hty2]
    generalize hL : loopA _ _ _ = L
    apply range_upd hL (by simp (maxSteps := 4000000) (disch := first | (intros; contradiction) | omega) only [go_sem] <;> rfl) x.body St0.row (α := Unit) (fun rest k a => True) (fun k a => [(9, .d (.int .i64 k))]) (fun _ _ => []) () (by simp (maxSteps := 4000000) (disch := first | (intros; contradiction) | omega) only [go_sem] <;> rfl) trivial ?_ ?_
    · intro y rs j _ _ hltj hrj hyy hkj _ nextj ih3
      clear hL
      have hym := List.mem_of_getElem? hyy
      have hyok := okSs_mem hok hym
      have hys := sizL_mem hym
      have hs1 := sStmt_e hx m y (by omega) hyok
      have hs2 := (dstmts_e hx (sizS y)).1 m y (Nat.le_refl _) (by omega) hyok
      unfold ShS at hs2
      unfold St0.agg at hs1 hs2
      have hE1 := exp_roomS (s := y) (by omega) hyok hx
      have hE2 := exp_room (s := y) (by omega) hyok hx
      have hel : (y.e.map Ex0.row).length = y.e.length := List.length_map _
      have hen := cntEs_len y.e
      have hse := sizS_eq y
      rw [St0.row_eq] at hrj
      have hj0 : (0 : Int) ≤ (j : Int) := by omega
      have hwj : IntKind.wrap .i64 ((j : Int) + 1) = ((j + 1 : Nat) : Int) := by rw [wrap64 (by omega) (by omega)]; omega
      simp (maxSteps := 4000000) (disch := first | (intros; contradiction) | omega) only [go_sem, hlt, hr, hk0, hltj, hrj, hj0, hs1, hs2]
      generalize hL : loopA _ _ _ = L
      apply range_upd hL (by simp (maxSteps := 4000000) (disch := first | (intros; contradiction) | omega) only [go_sem] <;> rfl) y.e Ex0.row (α := Unit) (fun rest k a => True) (fun k a => [(10, .d (.int .i64 k))]) (fun _ _ => []) () (by simp (maxSteps := 4000000) (disch := first | (intros; contradiction) | omega) only [go_sem] <;> rfl) trivial ?_ ?_
      · intro z rs2 q _ _ hltq hrq hzz hkq _ nextq ih4
        clear hL
        have hzm := List.mem_of_getElem? hzz
        have e1 := (hE1 z hzm).1
        have e2 := (hE2 z hzm).1
        unfold ShE Ex0.agg at e1 e2
        rw [Ex0.row_eq] at hrq
        have hq0 : (0 : Int) ≤ (q : Int) := by omega
        have hwq : IntKind.wrap .i64 ((q : Int) + 1) = ((q + 1 : Nat) : Int) := by rw [wrap64 (by omega) (by omega)]; omega
        simp (maxSteps := 4000000) (disch := first | (intros; contradiction) | omega) only [go_sem, hlt, hr, hk0, hltj, hrj, hj0, hltq, hrq, hq0, e1, e2, hwq]
        exact ih4 () _ trivial (by simp (maxSteps := 4000000) (disch := first | (intros; contradiction) | omega) only [go_sem] <;> rfl)
      · intro q _ _ hltq hkq nextq
        clear hL
        simp (maxSteps := 4000000) (disch := first | (intros; contradiction) | omega) only [go_sem, hlt, hr, hk0, hltj, hrj, hj0, hltq, hwj]
        exact ih3 () _ trivial (by simp (maxSteps := 4000000) (disch := first | (intros; contradiction) | omega) only [go_sem] <;> rfl)
    · intro j _ _ hltj hkj nextj
      clear hL
      simp (maxSteps := 4000000) (disch := first | (intros; contradiction) | omega) only [go_sem, hltj, hwk]
      exact ih2 () _ trivial (by simp (maxSteps := 4000000) (disch := first | (intros; contradiction) | omega) only [go_sem] <;> rfl)
  · intro k' _ _ hlt hk next
    clear hL
    simp (maxSteps := 4000000) (disch := first | (intros; contradiction) | omega) only [go_sem, hlt, ha]
    done
end Go.Proofs.YtdpkdeimliohmaaDoor
