/- The program's text of an expression. Conditions: none. -/
import Derived.Test.YtdpkdeimliohmaaDoorK3a
set_option linter.unusedSimpArgs false
set_option linter.unusedVariables false
namespace Go.Proofs.YtdpkdeimliohmaaDoor
open Go Go.Ab
variable {ext : Sem'}
/-- How much it binds. -/
def bndE (e : Ex0) : Int := if e.kind = 4 then (bindsP e.op : Int) else 5
theorem binds_le (op : Str) : 1 ≤ bindsP op ∧ bindsP op ≤ 3 := by
  unfold bindsP
  split
  · omega
  · split <;> omega
theorem swithin_e (hx : T3 ext) (e : Ex0) (n : Int) (hE : ShE ext 12 e) (hl : (showE e).length ≤ 100000000) : G ext 28 [e.agg, .d (.int .i64 n)] [] = some (.ret (.d (.str (brk (decide (bndE e < n)) (showE e)))), []) := by
  have hb := sbinds_e hx e
  have hb2 : (if e.kind = 4 then (bindsP e.op : Int) else 5) = bndE e := rfl
  rw [hb2] at hb
  unfold ShE Ex0.agg at hE
  unfold brk
  unfold Ex0.agg at hb ⊢
  generalize showE e = t at *
  generalize bndE e = b at *
  by_cases h : b < n
  · have h' := eq_true h
    rw [if_pos (by simpa using h)]
    rw [G_body hx.clear rfl Tryd.func28 rfl Tryd.results28 hv_28 rfl]
    simp (maxSteps := 4000000) (disch := first | (intros; contradiction) | omega) only [go_sem, hb, h', hE, if_le]
    done
  · rw [if_neg (by simpa using h)]
    rw [G_body hx.clear rfl Tryd.func28 rfl Tryd.results28 hv_28 rfl]
    simp (maxSteps := 4000000) (disch := first | (intros; contradiction) | omega) only [go_sem, hb, h, hE]
    done
theorem sbase_e (hx : T3 ext) (e : Ex0) (hE : ShE ext 12 e) (hl : (showE e).length ≤ 100000000) : G ext 26 [e.agg] [] = some (.ret (.d (.str (brk (decide (e.kind = 4) || decide (e.kind = 5)) (showE e)))), []) := by
  have hw := swithin_e hx e 5 hE hl
  have hbb : decide (bndE e < 5) = decide (e.kind = 4) := by
    unfold bndE
    have := binds_le e.op
    split
    · rename_i h; simp [h]; omega
    · rename_i h; simp [h]
  rw [hbb] at hw
  unfold ShE Ex0.agg at hE
  unfold Ex0.agg at hw ⊢
  by_cases h : e.kind = 5
  · have h' := eq_true h
    have h4 : ¬ e.kind = 4 := by omega
    have : (decide (e.kind = 4) || decide (e.kind = 5)) = true := by simp [h]
    rw [this]
    unfold brk
    rw [if_pos rfl]
    clear hw
    generalize showE e = t at *
    rw [G_body hx.clear rfl Tryd.func26 rfl Tryd.results26 hv_26 rfl]
    simp (maxSteps := 4000000) (disch := first | (intros; contradiction) | omega) only [go_sem, h', hE, if_le]
    done
  · have : (decide (e.kind = 4) || decide (e.kind = 5)) = decide (e.kind = 4) := by simp [h]
    rw [this]
    generalize brk (decide (e.kind = 4)) (showE e) = t at *
    rw [G_body hx.clear rfl Tryd.func26 rfl Tryd.results26 hv_26 rfl]
    simp (maxSteps := 4000000) (disch := first | (intros; contradiction) | omega) only [go_sem, h, hw]
    done
set_option maxHeartbeats 1000000 in
theorem schain_e (hx : T3 ext) (n : Int) (s o : Str) (a b : Ex0) (at_ : Po) (ho : o.length ≤ 3000) (ha : ShE ext 12 a) (hb : ShE ext 12 b) (la : (showE a).length ≤ 70000000) (lb : (showE b).length ≤ 70000000) :
    G ext 27 [.agg [.d (.int .i64 4), .d (.int .i64 n), .d (.str s), .d (.str o), .d (.sl ([a, b].map Ex0.row)), .d (.int .i64 at_.line), .d (.int .i64 at_.col)]] [] =
      some (.ret (.d (.str (brk (decide (a.kind = 4) && (decide (bindsP a.op < bindsP o) || (decide (bindsP o = 1) && decide (bindsP a.op = 1)))) (showE a) ++ [32] ++ o ++ [32] ++ brk (decide (b.kind = 4) && decide (bindsP b.op ≤ bindsP o)) (showE b)))), []) := by
  have hbo := sbinds_e hx (.mk 4 n s o [a, b] at_)
  unfold Ex0.agg at hbo
  simp only [Ex0.kind, Ex0.n, Ex0.name, Ex0.op, Ex0.kids, Ex0.pos, if_true] at hbo
  have b0 := binds_le o
  have b1 := binds_le a.op
  have b2 := binds_le b.op
  have hwa := swithin_e hx a (if bindsP o = 1 then 2 else (bindsP o : Int)) ha (by omega)
  have hwb := swithin_e hx b ((bindsP o : Int) + 1) hb (by omega)
  have e1 : decide (bndE a < (if bindsP o = 1 then 2 else (bindsP o : Int))) = (decide (a.kind = 4) && (decide (bindsP a.op < bindsP o) || (decide (bindsP o = 1) && decide (bindsP a.op = 1)))) := by
    unfold bndE
    by_cases c1 : a.kind = 4
    · rw [if_pos c1]
      by_cases c2 : bindsP o = 1
      · rw [if_pos c2]
        simp only [c1, c2, decide_true, Bool.true_and]
        rw [Bool.eq_iff_iff]
        simp only [decide_eq_true_eq, Bool.or_eq_true]
        omega
      · rw [if_neg c2]
        simp only [c1, c2, decide_true, decide_false, Bool.true_and, Bool.false_and, Bool.or_false]
        rw [Bool.eq_iff_iff]
        simp only [decide_eq_true_eq]
        omega
    · rw [if_neg c1]
      simp only [c1, decide_false, Bool.false_and, decide_eq_false_iff_not]
      split <;> omega
  have e2 : decide (bndE b < (bindsP o : Int) + 1) = (decide (b.kind = 4) && decide (bindsP b.op ≤ bindsP o)) := by
    unfold bndE
    by_cases c1 : b.kind = 4
    · rw [if_pos c1]
      simp only [c1, decide_true, Bool.true_and]
      rw [Bool.eq_iff_iff]
      simp only [decide_eq_true_eq]
      omega
    · rw [if_neg c1]
      simp only [c1, decide_false, Bool.false_and, decide_eq_false_iff_not]
      omega
  rw [e1] at hwa
  rw [e2] at hwb
  have l1 := brk_len (decide (a.kind = 4) && (decide (bindsP a.op < bindsP o) || (decide (bindsP o = 1) && decide (bindsP a.op = 1)))) (showE a)
  have l2 := brk_len (decide (b.kind = 4) && decide (bindsP b.op ≤ bindsP o)) (showE b)
  generalize brk (decide (a.kind = 4) && (decide (bindsP a.op < bindsP o) || (decide (bindsP o = 1) && decide (bindsP a.op = 1)))) (showE a) = ta at *
  generalize brk (decide (b.kind = 4) && decide (bindsP b.op ≤ bindsP o)) (showE b) = tb at *
  clear e1 e2 b1 b2
  have hwk : IntKind.wrap .i64 ((bindsP o : Int) + 1) = (bindsP o : Int) + 1 := wrap64 (by omega) (by omega)
  generalize bindsP o = bo at *
  rw [two_row] at hbo ⊢
  unfold Ex0.agg at hwa hwb
  by_cases c2 : bo = 1
  · have c2' : ((bo : Int) = 1) = True := eq_true (by omega)
    rw [if_pos c2] at hwa
    rw [G_body hx.clear rfl Tryd.func27 rfl Tryd.results27 hv_27 rfl]
    simp (maxSteps := 4000000) (disch := first | (intros; contradiction) | omega) only [go_sem, hbo, c2', hwa, hwb, hwk, if_le]
    done
  · have c2' : ¬ (bo : Int) = 1 := by omega
    rw [if_neg c2] at hwa
    rw [G_body hx.clear rfl Tryd.func27 rfl Tryd.results27 hv_27 rfl]
    simp (maxSteps := 4000000) (disch := first | (intros; contradiction) | omega) only [go_sem, hbo, c2', hwa, hwb, hwk, if_le]
    done
/-- Texts, as rows. -/
def strR (l : List Str) : List (List Dt) := l.map fun x => [.str x]
theorem strR_snoc (l : List Str) (x : Str) : strR (l ++ [x]) = strR l ++ [[.str x]] := by simp [strR]
theorem strR_len (l : List Str) : (strR l).length = l.length := by simp [strR]
set_option maxHeartbeats 8000000 in
theorem scall_e (hx : T3 ext) (k n : Int) (s o : Str) (ks : List Ex0) (at_ : Po) (k1 : ¬ k = 1) (k2 : ¬ k = 2) (k3 : ¬ k = 3) (k4 : ¬ k = 4) (k5 : ¬ k = 5) (k6 : ¬ k = 6) (k7 : ¬ k = 7) (k8 : ¬ k = 8) (hs : s.length ≤ 3000) (hc : cntEs ks ≤ 10000)
    (ihk : ∀ x, x ∈ ks → ShE ext 12 x ∧ (showE x).length + 2 ≤ 7000 * cntE x ∧ (showE x).length ≤ 70000000) :
    G ext 12 [.agg [.d (.int .i64 k), .d (.int .i64 n), .d (.str s), .d (.str o), .d (.sl (ks.map Ex0.row)), .d (.int .i64 at_.line), .d (.int .i64 at_.col)]] [] = some (.ret (.d (.str (s ++ [40] ++ joinL [44, 32] (ks.map showE) ++ [41]))), []) := by
  have hkl := cntEs_len ks
  have hll : (ks.map Ex0.row).length = ks.length := List.length_map _
  have hjl : (joinL [44, 32] (ks.map showE)).length ≤ 7000 * cntEs ks := joinL_len (by
    have := sum_take ks (fun x hxm => (ihk x hxm).2.1) ks (List.prefix_refl _)
    simp only [List.length_map, List.length_cons, List.length_nil] at this ⊢
    omega)
  have hjn := join_e hx (ks.map showE) [44, 32] (by rw [List.length_map]; omega) (by omega)
  generalize hj : joinL [44, 32] (ks.map showE) = jt at *
  rw [G_body hx.clear rfl Tryd.func12 rfl Tryd.results12 hv_12 rfl]
  simp (maxSteps := 4000000) (disch := first | (intros; contradiction) | omega) only [go_sem, k1, k2, k3, k4, k5, k6, k7, k8, if_le]
  generalize hL : loopA _ _ _ = L
  apply range_upd hL (by simp (maxSteps := 4000000) (disch := first | (intros; contradiction) | omega) only [go_sem] <;> rfl) ks Ex0.row (α := List Ex0) (fun rest k a => a ++ rest = ks ∧ a.length = k) (fun k a => [(3, .grow 1 k (strR (a.map showE))), (54, .d (.int .i64 k))]) (fun k _ => [(1, .grow k 1)]) [] (by simp (maxSteps := 4000000) (disch := first | (intros; contradiction) | omega) only [go_sem] <;> rfl) ⟨rfl, rfl⟩ ?_ ?_
  · intro x rest k' a hi hlt hr hxx hk _ next ih2
    clear hL
    obtain ⟨hi1, hi2⟩ := hi
    have hmem := List.mem_of_getElem? hxx
    obtain ⟨c1, c2, c3⟩ := ihk x hmem
    rw [Ex0.row_eq] at hr
    unfold ShE Ex0.agg at c1
    have hk0 : (0 : Int) ≤ (k' : Int) := by omega
    have hwk : IntKind.wrap .i64 ((k' : Int) + 1) = ((k' + 1 : Nat) : Int) := by rw [wrap64 (by omega) (by omega)]; omega
    have hmm : strR ((a ++ [x]).map showE) = strR (a.map showE) ++ [[.str (showE x)]] := by rw [List.map_append, List.map_cons, List.map_nil, strR_snoc]
    have hrl : (strR (a.map showE)).length = a.length := by rw [strR_len, List.length_map]
    have hroom : ∀ b : Nat, b ≤ 1000 → room (a.length + 1) b := fun b hb => room_few (by omega) hb
    simp (maxSteps := 4000000) (disch := first | (intros; contradiction) | omega) only [go_sem, hlt, hr, hk0, c1, hwk, hrl, hroom]
    exact ih2 (a ++ [x]) _ ⟨by rw [← hi1]; simp, by simp [hi2]⟩ (by simp (maxSteps := 4000000) (disch := first | (intros; contradiction) | omega) only [go_sem, hmm] <;> rfl)
  · intro k' a hi hlt hk next
    clear hL
    obtain ⟨hi1, hi2⟩ := hi
    rw [List.append_nil] at hi1
    subst hi1
    have hjn' : G ext 29 [.d (.sl (strR (a.map showE))), .d (.str [44, 32])] [] = some (.ret (.d (.str jt)), []) := hjn
    simp (maxSteps := 4000000) (disch := first | (intros; contradiction) | omega) only [go_sem, hlt, hjn', if_le]
    done
set_option maxHeartbeats 8000000 in
theorem sexpr_e (hx : T3 ext) : ∀ (m : Nat) (e : Ex0), cntE e ≤ m → m ≤ 10000 → okE e → ShE ext 12 e := by
  intro m
  induction m using Nat.strongRecOn with
  | ind m ih =>
    intro e hm hm2 hok
    obtain ⟨k, n, s, o, ks, at_⟩ := e
    have hcnt : cntEs ks + 1 ≤ m := by simp only [cntE] at hm; omega
    obtain ⟨⟨hn, hs, ho⟩, har, hoks⟩ : (okN n ∧ okT s ∧ okT o) ∧ arity k ks.length ∧ okEs ks := hok
    replace hs := hs.1
    replace ho := ho.1
    have ihk : ∀ x, x ∈ ks → ShE ext 12 x ∧ (showE x).length + 2 ≤ 7000 * cntE x ∧ (showE x).length ≤ 70000000 := fun x hxm => by
      have h1 := cntEs_mem hxm
      have h2 := okEs_mem hoks hxm
      have h3 := showE_len (cntE x) x (Nat.le_refl _) h2
      exact ⟨ih (cntE x) (by omega) x (Nat.le_refl _) (by omega) h2, h3, by omega⟩
    have hkl := cntEs_len ks
    have hn1 := hn.1
    have hn2 := hn.2
    have hfm := fmt_e hx n (by omega) (by omega)
    unfold ShE
    rw [showE_eq]
    unfold Ex0.agg
    simp only [Ex0.kind, Ex0.n, Ex0.name, Ex0.op, Ex0.kids, Ex0.pos]
    unfold showK
    by_cases k1 : k = 1
    · subst k1
      rw [if_pos rfl]
      rw [G_body hx.clear rfl Tryd.func12 rfl Tryd.results12 hv_12 rfl]
      simp (maxSteps := 4000000) (disch := first | (intros; contradiction) | omega) only [go_sem, hfm]
      done
    rw [if_neg k1]
    by_cases k2 : k = 2
    · subst k2
      rw [if_pos rfl]
      rw [G_body hx.clear rfl Tryd.func12 rfl Tryd.results12 hv_12 rfl]
      simp (maxSteps := 4000000) (disch := first | (intros; contradiction) | omega) only [go_sem]
      done
    rw [if_neg k2]
    by_cases k3 : k = 3
    · subst k3
      rw [if_pos rfl]
      obtain ⟨a, rfl⟩ := len_one (har.1 rfl)
      obtain ⟨a1, a2, a3⟩ := ihk a (by simp)
      have hba := sbase_e hx a a1 (by omega)
      have hbl := brk_len (decide (a.kind = 4) || decide (a.kind = 5)) (showE a)
      unfold Ex0.agg at hba
      rw [one_row]
      simp only [List.map_cons, List.map_nil, List.getD_cons_zero]
      generalize brk (decide (a.kind = 4) || decide (a.kind = 5)) (showE a) = t at hba hbl ⊢
      rw [G_body hx.clear rfl Tryd.func12 rfl Tryd.results12 hv_12 rfl]
      simp (maxSteps := 4000000) (disch := first | (intros; contradiction) | omega) only [go_sem, hba, if_le]
      done
    rw [if_neg k3]
    by_cases k4 : k = 4
    · subst k4
      rw [if_pos rfl]
      obtain ⟨a, b, rfl⟩ := len_two (har.2.1 rfl)
      obtain ⟨a1, a2, a3⟩ := ihk a (by simp)
      obtain ⟨b1, b2, b3⟩ := ihk b (by simp)
      have hch := schain_e hx n s o a b at_ ho a1 b1 a3 b3
      simp only [List.map_cons, List.map_nil, List.getD_cons_zero, List.getD_cons_succ] at hch ⊢
      generalize brk (decide (a.kind = 4) && (decide (bindsP a.op < bindsP o) || (decide (bindsP o = 1) && decide (bindsP a.op = 1)))) (showE a) ++ [32] ++ o ++ [32] ++ brk (decide (b.kind = 4) && decide (bindsP b.op ≤ bindsP o)) (showE b) = t at hch ⊢
      rw [G_body hx.clear rfl Tryd.func12 rfl Tryd.results12 hv_12 rfl]
      simp (maxSteps := 4000000) (disch := first | (intros; contradiction) | omega) only [go_sem, hch]
      done
    rw [if_neg k4]
    by_cases k5 : k = 5
    · subst k5
      rw [if_pos rfl]
      obtain ⟨a, rfl⟩ := len_one (har.2.2 rfl)
      obtain ⟨a1, a2, a3⟩ := ihk a (by simp)
      have hw := swithin_e hx a 5 a1 (by omega)
      have hbb : decide (bndE a < 5) = decide (a.kind = 4) := by
        unfold bndE
        have := binds_le a.op
        split
        · rename_i h; simp [h]; omega
        · rename_i h; simp [h]
      rw [hbb] at hw
      have hbl := brk_len (decide (a.kind = 4)) (showE a)
      unfold Ex0.agg at hw
      rw [one_row]
      simp only [List.map_cons, List.map_nil, List.getD_cons_zero]
      generalize brk (decide (a.kind = 4)) (showE a) = t at hw hbl ⊢
      rw [G_body hx.clear rfl Tryd.func12 rfl Tryd.results12 hv_12 rfl]
      simp (maxSteps := 4000000) (disch := first | (intros; contradiction) | omega) only [go_sem, hw, if_le]
      done
    rw [if_neg k5]
    by_cases k6 : k = 6
    · subst k6
      rw [if_pos rfl]
      rw [G_body hx.clear rfl Tryd.func12 rfl Tryd.results12 hv_12 rfl]
      simp (maxSteps := 4000000) (disch := first | (intros; contradiction) | omega) only [go_sem]
      done
    rw [if_neg k6]
    by_cases k7 : k = 7
    · subst k7
      rw [if_pos rfl]
      rw [G_body hx.clear rfl Tryd.func12 rfl Tryd.results12 hv_12 rfl]
      simp (maxSteps := 4000000) (disch := first | (intros; contradiction) | omega) only [go_sem, if_le]
      done
    rw [if_neg k7]
    by_cases k8 : k = 8
    · subst k8
      rw [if_pos rfl]
      rw [G_body hx.clear rfl Tryd.func12 rfl Tryd.results12 hv_12 rfl]
      simp (maxSteps := 4000000) (disch := first | (intros; contradiction) | omega) only [go_sem]
      done
    rw [if_neg k8]
    exact scall_e hx k n s o ks at_ k1 k2 k3 k4 k5 k6 k7 k8 hs (by omega) ihk
end Go.Proofs.YtdpkdeimliohmaaDoor
