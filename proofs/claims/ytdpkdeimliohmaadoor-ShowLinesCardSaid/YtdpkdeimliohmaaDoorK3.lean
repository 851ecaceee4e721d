/- The document's text of an expression. Conditions: none. -/
import Derived.Test.YtdpkdeimliohmaaDoorK3a
set_option linter.unusedSimpArgs false
set_option linter.unusedVariables false
namespace Go.Proofs.YtdpkdeimliohmaaDoor
open Go Go.Ab
variable {ext : Sem'}
set_option maxHeartbeats 8000000 in
theorem dexpr_e (hx : T3 ext) : ∀ (m : Nat) (e : Ex0), cntE e ≤ m → m ≤ 10000 → okE e → ShE ext 13 e := by
  intro m
  induction m using Nat.strongRecOn with
  | ind m ih =>
    intro e hm hm2 hok
    have hkn : ∀ x, x ∈ e.kids → okE x ∧ cntE x + 1 ≤ cntE e := fun x hxm => by
      rw [okE_eq] at hok
      exact ⟨okEs_mem hok.2.2 hxm, by have := cntEs_mem hxm; have := cntE_eq e; omega⟩
    obtain ⟨k, n, s, o, ks, at_⟩ := e
    have hcnt : cntEs ks + 1 ≤ m := by simp only [cntE] at hm; omega
    obtain ⟨⟨hn, hs, ho⟩, har, hoks⟩ : (okN n ∧ okT s ∧ okT o) ∧ arity k ks.length ∧ okEs ks := hok
    replace hs := hs.1
    replace ho := ho.1
    have ihk : ∀ x, x ∈ ks → ShE ext 13 x ∧ (showE x).length + 2 ≤ 7000 * cntE x ∧ (showE x).length ≤ 70000000 := fun x hxm => by
      have h1 := cntEs_mem hxm
      have h2 := okEs_mem hoks hxm
      have h3 := showE_len (cntE x) x (Nat.le_refl _) h2
      exact ⟨ih (cntE x) (by omega) x (Nat.le_refl _) (by omega) h2, h3, by omega⟩
    have hkl := cntEs_len ks
    have hdec := rdec_e hx n hn
    have hkn0 := hkn
    clear hkn hkn0
    unfold ShE
    rw [showE_eq]
    unfold Ex0.agg
    simp only [Ex0.kind, Ex0.n, Ex0.name, Ex0.op, Ex0.kids, Ex0.pos]
    unfold showK
    by_cases k1 : k = 1
    · subst k1
      rw [if_pos rfl]
      rw [G_body hx.clear rfl Tryd.func13 rfl Tryd.results13 hv_13 rfl]
      simp (maxSteps := 4000000) (disch := first | (intros; contradiction) | omega) only [go_sem, hdec]
      done
    rw [if_neg k1]
    by_cases k2 : k = 2
    · subst k2
      rw [if_pos rfl]
      rw [G_body hx.clear rfl Tryd.func13 rfl Tryd.results13 hv_13 rfl]
      simp (maxSteps := 4000000) (disch := first | (intros; contradiction) | omega) only [go_sem]
      done
    rw [if_neg k2]
    by_cases k3 : k = 3
    · subst k3
      rw [if_pos rfl]
      obtain ⟨a, rfl⟩ := len_one (har.1 rfl)
      obtain ⟨a1, a2, a3⟩ := ihk a (by simp)
      have hkid := dkid_e hx a (decide (a.kind = 4) || decide (a.kind = 5)) a1 (by omega)
      have hbl := brk_len (decide (a.kind = 4) || decide (a.kind = 5)) (showE a)
      unfold Ex0.agg at hkid
      rw [one_row]
      simp only [List.map_cons, List.map_nil, List.getD_cons_zero]
      generalize hbq : (decide (a.kind = 4) || decide (a.kind = 5)) = bb at hkid hbl ⊢
      generalize brk bb (showE a) = t at hkid hbl ⊢
      rw [G_body hx.clear rfl Tryd.func13 rfl Tryd.results13 hv_13 rfl]
      by_cases q4 : a.kind = 4
      · have q4' := eq_true q4
        have hb' : bb = true := by rw [← hbq, q4]; rfl
        rw [hb'] at hkid
        simp (maxSteps := 4000000) (disch := first | (intros; contradiction) | omega) only [go_sem, q4', hkid, if_le]
        done
      · by_cases q5 : a.kind = 5
        · have q5' := eq_true q5
          have hb' : bb = true := by rw [← hbq, q5]; rfl
          rw [hb'] at hkid
          simp (maxSteps := 4000000) (disch := first | (intros; contradiction) | omega) only [go_sem, q4, q5', hkid, if_le]
          done
        · have hb' : bb = false := by rw [← hbq]; simp [q4, q5]
          rw [hb'] at hkid
          simp (maxSteps := 4000000) (disch := first | (intros; contradiction) | omega) only [go_sem, q4, q5, hkid, if_le]
          done
    rw [if_neg k3]
    by_cases k4 : k = 4
    · subst k4
      rw [if_pos rfl]
      obtain ⟨a, b, rfl⟩ := len_two (har.2.1 rfl)
      obtain ⟨a1, a2, a3⟩ := ihk a (by simp)
      obtain ⟨b1, b2, b3⟩ := ihk b (by simp)
      rw [two_row]
      simp only [List.map_cons, List.map_nil, List.getD_cons_zero, List.getD_cons_succ]
      have hka : ∀ q, G ext 31 [a.agg, .d (.bool q)] [] = some (.ret (.d (.str (brk q (showE a)))), []) := fun q => dkid_e hx a q a1 (by omega)
      have hkb : ∀ q, G ext 31 [b.agg, .d (.bool q)] [] = some (.ret (.d (.str (brk q (showE b)))), []) := fun q => dkid_e hx b q b1 (by omega)
      have la : ∀ q, (brk q (showE a)).length ≤ 70000002 := fun q => Nat.le_trans (brk_len q _) (by omega)
      have lb : ∀ q, (brk q (showE b)).length ≤ 70000002 := fun q => Nat.le_trans (brk_len q _) (by omega)
      have ho1 := rbinds_e hx o
      have ho2 := rbinds_e hx a.op
      have ho3 := rbinds_e hx b.op
      unfold Ex0.agg at hka hkb
      generalize bindsP o = bo at *
      generalize bindsP a.op = ba at *
      generalize bindsP b.op = bb at *
      have hL : (((¬ a.kind = 4) ∧ (¬ a.kind = 4) ∧ (¬ a.kind = 4) ∧ (¬ a.kind = 4)) ∧ (decide (a.kind = 4) && (decide (ba < bo) || (decide (bo = 1) && decide (ba = 1)))) = false) ∨
          ((((a.kind = 4) = True) ∧ (((ba : Int) < (bo : Int)) = True) ∧ ((a.kind = 4) = True) ∧ ((a.kind = 4) = True)) ∧ (decide (a.kind = 4) && (decide (ba < bo) || (decide (bo = 1) && decide (ba = 1)))) = true) ∨
          ((((a.kind = 4) = True) ∧ (¬ (ba : Int) < (bo : Int)) ∧ (¬ (bo : Int) = 1) ∧ ((a.kind = 4) = True)) ∧ (decide (a.kind = 4) && (decide (ba < bo) || (decide (bo = 1) && decide (ba = 1)))) = false) ∨
          ((((a.kind = 4) = True) ∧ (¬ (ba : Int) < (bo : Int)) ∧ (((bo : Int) = 1) = True) ∧ (¬ (ba : Int) = 1)) ∧ (decide (a.kind = 4) && (decide (ba < bo) || (decide (bo = 1) && decide (ba = 1)))) = false) ∨
          ((((a.kind = 4) = True) ∧ (¬ (ba : Int) < (bo : Int)) ∧ (((bo : Int) = 1) = True) ∧ (((ba : Int) = 1) = True)) ∧ (decide (a.kind = 4) && (decide (ba < bo) || (decide (bo = 1) && decide (ba = 1)))) = true) := by
        by_cases c1 : a.kind = 4
        · by_cases c2 : ba < bo
          · exact .inr (.inl ⟨⟨eq_true c1, eq_true (by omega), eq_true c1, eq_true c1⟩, by simp [c1, c2]⟩)
          · by_cases c3 : bo = 1
            · by_cases c4 : ba = 1
              · exact .inr (.inr (.inr (.inr ⟨⟨eq_true c1, by omega, eq_true (by omega), eq_true (by omega)⟩, by simp [c1, c3, c4]⟩)))
              · exact .inr (.inr (.inr (.inl ⟨⟨eq_true c1, by omega, eq_true (by omega), by omega⟩, by simp [c1, c3, c4]; omega⟩)))
            · exact .inr (.inr (.inl ⟨⟨eq_true c1, by omega, by omega, eq_true c1⟩, by simp [c1, c2, c3]⟩))
        · exact .inl ⟨⟨c1, c1, c1, c1⟩, by simp [c1]⟩
      have hR : (((¬ b.kind = 4) ∧ (¬ b.kind = 4)) ∧ (decide (b.kind = 4) && decide (bb ≤ bo)) = false) ∨
          ((((b.kind = 4) = True) ∧ (((bb : Int) ≤ (bo : Int)) = True)) ∧ (decide (b.kind = 4) && decide (bb ≤ bo)) = true) ∨
          ((((b.kind = 4) = True) ∧ (¬ (bb : Int) ≤ (bo : Int))) ∧ (decide (b.kind = 4) && decide (bb ≤ bo)) = false) := by
        by_cases c1 : b.kind = 4
        · by_cases c2 : bb ≤ bo
          · exact .inr (.inl ⟨⟨eq_true c1, eq_true (by omega)⟩, by simp [c1, c2]⟩)
          · exact .inr (.inr ⟨⟨eq_true c1, by omega⟩, by simp [c1, c2]⟩)
        · exact .inl ⟨⟨c1, c1⟩, by simp [c1]⟩
      generalize (decide (a.kind = 4) && (decide (ba < bo) || (decide (bo = 1) && decide (ba = 1)))) = q1 at hL ⊢
      generalize (decide (b.kind = 4) && decide (bb ≤ bo)) = q2 at hR ⊢
      clear a1 a2 a3 b1 b2 b3 hdec ihk ih hm hcnt hkl har hoks k1 k2 k3
      have la0 := la false
      have la1 := la true
      have lb0 := lb false
      have lb1 := lb true
      rw [G_body hx.clear rfl Tryd.func13 rfl Tryd.results13 hv_13 rfl]
      rcases hL with ⟨⟨f1, f2, f3, f4⟩, rfl⟩ | ⟨⟨f1, f2, f3, f4⟩, rfl⟩ | ⟨⟨f1, f2, f3, f4⟩, rfl⟩ | ⟨⟨f1, f2, f3, f4⟩, rfl⟩ | ⟨⟨f1, f2, f3, f4⟩, rfl⟩ <;> rcases hR with ⟨⟨g1, g2⟩, rfl⟩ | ⟨⟨g1, g2⟩, rfl⟩ | ⟨⟨g1, g2⟩, rfl⟩
      all_goals
        simp (maxSteps := 4000000) (disch := first | (intros; contradiction) | omega) only [go_sem, f1, f2, f3, f4, g1, g2, ho1, ho2, ho3, hka, hkb, if_le]
        done
    rw [if_neg k4]
    by_cases k5 : k = 5
    · subst k5
      rw [if_pos rfl]
      obtain ⟨a, rfl⟩ := len_one (har.2.2 rfl)
      obtain ⟨a1, a2, a3⟩ := ihk a (by simp)
      have hkid := dkid_e hx a (decide (a.kind = 4)) a1 (by omega)
      have hbl := brk_len (decide (a.kind = 4)) (showE a)
      unfold Ex0.agg at hkid
      rw [one_row]
      simp only [List.map_cons, List.map_nil, List.getD_cons_zero]
      generalize brk (decide (a.kind = 4)) (showE a) = t at hkid hbl ⊢
      rw [G_body hx.clear rfl Tryd.func13 rfl Tryd.results13 hv_13 rfl]
      simp (maxSteps := 4000000) (disch := first | (intros; contradiction) | omega) only [go_sem, hkid, if_le]
      done
    rw [if_neg k5]
    by_cases k6 : k = 6
    · subst k6
      rw [if_pos rfl]
      rw [G_body hx.clear rfl Tryd.func13 rfl Tryd.results13 hv_13 rfl]
      simp (maxSteps := 4000000) (disch := first | (intros; contradiction) | omega) only [go_sem]
      done
    rw [if_neg k6]
    by_cases k7 : k = 7
    · subst k7
      rw [if_pos rfl]
      rw [G_body hx.clear rfl Tryd.func13 rfl Tryd.results13 hv_13 rfl]
      simp (maxSteps := 4000000) (disch := first | (intros; contradiction) | omega) only [go_sem, if_le]
      done
    rw [if_neg k7]
    by_cases k8 : k = 8
    · subst k8
      rw [if_pos rfl]
      rw [G_body hx.clear rfl Tryd.func13 rfl Tryd.results13 hv_13 rfl]
      simp (maxSteps := 4000000) (disch := first | (intros; contradiction) | omega) only [go_sem]
      done
    rw [if_neg k8]
    exact dcall_e hx k n s o ks at_ k1 k2 k3 k4 k5 k6 k7 k8 hs (by omega) ihk
end Go.Proofs.YtdpkdeimliohmaaDoor
