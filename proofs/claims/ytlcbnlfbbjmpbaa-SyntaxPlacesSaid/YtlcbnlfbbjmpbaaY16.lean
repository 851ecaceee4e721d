/- Law 2: each expression stands at its token. Conditions: what is known of syntax.parse. -/
import Derived.Test.YtlcbnlfbbjmpbaaY15
set_option linter.unusedSimpArgs false
set_option linter.unusedVariables false
namespace Go.Proofs.Ytlcbnlfbbjmpbaa
open Go Go.Ab
variable {ext : Sem'}
def Ex0.av (e : Ex0) : AV := .agg (eO e)
theorem atT_drop {ts : List Tok} {p : Po} {i : Nat} {t : Tok} (h : ts[i]? = some t) : (ts.drop i).find? (fun t => decide (t.pos.1 = p.line) && decide (t.pos.2 = p.col)) = if decide (t.pos.1 = p.line) && decide (t.pos.2 = p.col) then some t else (ts.drop (i + 1)).find? (fun t => decide (t.pos.1 = p.line) && decide (t.pos.2 = p.col)) := by
  obtain ⟨hi, he⟩ := List.getElem?_eq_some_iff.1 h
  rw [List.drop_eq_getElem_cons hi, List.find?_cons, he]
  cases decide (t.pos.1 = p.line) && decide (t.pos.2 = p.col) <;> rfl
theorem lat_e (hx : T0 ext) (ts : List Tok) (p : Po) (hl : ts.length ≤ 1000000) : G ext 41 [.d (.sl (ts.map Tok.row)), .agg [.d (.int .i64 p.line), .d (.int .i64 p.col)]] [] = some (.ret (atT ts p).av, []) := by
  have hll : (ts.map Tok.row).length = ts.length := List.length_map _
  unfold atT Tok.av
  rw [G_body hx.clear rfl Try.func41 rfl Try.results41 hv_41 rfl]
  simp (maxSteps := 4000000) (disch := first | (intros; contradiction) | omega) only [go_sem]
  generalize hL : loopA _ _ _ = L
  apply loop_upd hL (by simp (maxSteps := 4000000) (disch := first | (intros; contradiction) | omega) only [go_sem] <;> rfl) (α := Nat) (fun i => i ≤ ts.length ∧ ts.find? (fun t => decide (t.pos.1 = p.line) && decide (t.pos.2 = p.col)) = (ts.drop i).find? (fun t => decide (t.pos.1 = p.line) && decide (t.pos.2 = p.col))) (fun i => ts.length - i) (fun i => [(5, .d (.int .i64 i))]) (fun _ => []) 0 (by simp (maxSteps := 4000000) (disch := first | (intros; contradiction) | omega) only [go_sem] <;> rfl) ⟨Nat.zero_le _, rfl⟩ ?_
  clear hL
  rintro i ⟨hi, he⟩ next ih
  rw [he]
  by_cases h : i < ts.length
  · have hlt : (i : Int) < ((ts.map Tok.row).length : Int) := by omega
    have hi0 : (0 : Int) ≤ (i : Int) := by omega
    obtain ⟨t, hg⟩ : ∃ t, ts[i]? = some t := ⟨ts[i], List.getElem?_eq_getElem h⟩
    have hr : (ts.map Tok.row)[i]? = some (Tok.row t) := by rw [List.getElem?_map, hg]; rfl
    simp only [Tok.row] at hr
    rw [atT_drop hg]
    by_cases hq : t.pos.1 = p.line ∧ t.pos.2 = p.col
    · obtain ⟨h1, h2⟩ := hq
      rw [if_pos (by simp [h1, h2])]
      have h1' := eq_true h1
      have h2' := eq_true h2
      simp only [Option.getD_some]
      simp (maxSteps := 4000000) (disch := first | (intros; contradiction) | omega) only [go_sem, hlt, hi0, hr, h1', h2']
      done
    · have hb : (decide (t.pos.1 = p.line) && decide (t.pos.2 = p.col)) = false := by
        simp only [Bool.and_eq_false_iff, decide_eq_false_iff_not]
        by_cases h1 : t.pos.1 = p.line
        · exact .inr fun h2 => hq ⟨h1, h2⟩
        · exact .inl h1
      rw [hb, if_neg (by simp)]
      have hw : IntKind.i64.wrap ((i : Int) + 1) = ((i + 1 : Nat) : Int) := by rw [wrap64 (by omega) (by omega)]; omega
      rw [atT_drop hg, hb, if_neg (by simp)] at he
      have ih2 := ih (i + 1)
      by_cases h1 : t.pos.1 = p.line
      · have h2 : ¬ t.pos.2 = p.col := fun h2 => hq ⟨h1, h2⟩
        have h1' := eq_true h1
        simp (maxSteps := 4000000) (disch := first | (intros; contradiction) | omega) only [go_sem, hlt, hi0, hr, h1', h2, hw]
        rw [← he]
        exact ih2 _ ⟨h, he⟩ (by omega) (by simp (maxSteps := 4000000) (disch := first | (intros; contradiction) | omega) only [go_sem] <;> rfl)
      · by_cases h2 : t.pos.2 = p.col
        · have h2' := eq_true h2
          simp (maxSteps := 4000000) (disch := first | (intros; contradiction) | omega) only [go_sem, hlt, hi0, hr, h1, h2', hw]
          rw [← he]
          exact ih2 _ ⟨h, he⟩ (by omega) (by simp (maxSteps := 4000000) (disch := first | (intros; contradiction) | omega) only [go_sem] <;> rfl)
        · simp (maxSteps := 4000000) (disch := first | (intros; contradiction) | omega) only [go_sem, hlt, hi0, hr, h1, h2, hw]
          rw [← he]
          exact ih2 _ ⟨h, he⟩ (by omega) (by simp (maxSteps := 4000000) (disch := first | (intros; contradiction) | omega) only [go_sem] <;> rfl)
  · have hlt : ¬ (i : Int) < ((ts.map Tok.row).length : Int) := by omega
    rw [List.drop_of_length_le (by omega)]
    simp only [List.find?_nil, Option.getD_none, Tok.zero]
    simp (maxSteps := 4000000) (disch := first | (intros; contradiction) | omega) only [go_sem, hlt]
    done
set_option maxHeartbeats 8000000 in
theorem stands_e (hx : T0 ext) (ts : List Tok) (hl : ts.length ≤ 1000000) : ∀ n e, cntE e ≤ n → n ≤ 1000000 → StE ts e → G ext 16 [.d (.sl (ts.map Tok.row)), e.av] [] = some (.ret (.d (.bool true)), []) := by
  intro n
  induction n with
  | zero => intro e h; rw [cntE_eq] at h; omega
  | succ n ihn =>
    intro e hc hn hs
    obtain ⟨hk, hks⟩ := StE_eq.1 hs
    rw [cntE_eq] at hc
    have hat := lat_e hx ts e.pos hl
    generalize atT ts e.pos = t at hk hat
    obtain ⟨k1, k2, k3, k4, k6, k7, k8⟩ := hk
    have hkl := cntEs_len e.kids
    have hll : (e.kids.map Ex0.row).length = e.kids.length := List.length_map _
    have hkid : ∀ (i : Nat) (x : Ex0), e.kids[i]? = some x → G ext 16 [.d (.sl (ts.map Tok.row)), x.av] [] = some (.ret (.d (.bool true)), []) := fun i x hx' => by
      have hm := List.mem_of_getElem? hx'
      have := cntEs_mem hm
      exact ihn x (by omega) (by omega) (hks x hm)
    unfold Tok.av at hat
    have hkb : e.kids.length ≤ 1000000 := by omega
    clear hkl
    generalize hkd : e.kids = kids at hkid hkb hll
    unfold Ex0.av eO
    rw [hkd]
    generalize e.kind = kind at k1 k2 k3 k4 k6 k7 k8
    rw [G_body hx.clear rfl Try.func16 rfl Try.results16 hv_16 rfl]
    by_cases c1 : kind = 1
    · subst c1
      obtain ⟨f1, f2⟩ := k1 rfl
      have f1' := eq_true f1
      have f2' := eq_true f2
      clear k1 k2 k3 k4 k6 k7 k8
      simp (maxSteps := 4000000) (disch := first | (intros; contradiction) | omega) only [go_sem, hat, f1', f2']
      generalize hL : loopA _ _ _ = L
      apply loop_upd hL (by simp (maxSteps := 4000000) (disch := first | (intros; contradiction) | omega) only [go_sem] <;> rfl) (α := Nat) (fun i => i ≤ kids.length) (fun i => kids.length - i) (fun i => [(7, .d (.int .i64 i))]) (fun _ => []) 0 (by simp (maxSteps := 4000000) (disch := first | (intros; contradiction) | omega) only [go_sem] <;> rfl) (Nat.zero_le _) ?_
      clear hL
      intro i hi next ih
      by_cases h : i < kids.length
      · have hlt : (i : Int) < ((kids.map Ex0.row).length : Int) := by omega
        have hi0 : (0 : Int) ≤ (i : Int) := by omega
        obtain ⟨x, hg⟩ : ∃ x, kids[i]? = some x := ⟨kids[i], List.getElem?_eq_getElem h⟩
        have hr : (kids.map Ex0.row)[i]? = some (Ex0.row x) := by rw [List.getElem?_map, hg]; rfl
        rw [Ex0.row_eq] at hr
        have hkc := hkid i x hg
        unfold Ex0.av eO at hkc
        have hw : IntKind.i64.wrap ((i : Int) + 1) = ((i + 1 : Nat) : Int) := by rw [wrap64 (by omega) (by omega)]; omega
        simp (maxSteps := 4000000) (disch := first | (intros; contradiction) | omega) only [go_sem, hlt, hi0, hr, hkc, hw]
        exact ih (i + 1) _ h (by omega) (by simp (maxSteps := 4000000) (disch := first | (intros; contradiction) | omega) only [go_sem] <;> rfl)
      · have hlt : ¬ (i : Int) < ((kids.map Ex0.row).length : Int) := by omega
        simp (maxSteps := 4000000) (disch := first | (intros; contradiction) | omega) only [go_sem, hlt]
        done
    by_cases c2 : kind = 2
    · subst c2
      obtain ⟨f1, f2⟩ := k2 (.inl rfl)
      have f1' := eq_true f1
      have f2' := eq_true f2
      clear k1 k2 k3 k4 k6 k7 k8
      simp (maxSteps := 4000000) (disch := first | (intros; contradiction) | omega) only [go_sem, hat, f1', f2']
      generalize hL : loopA _ _ _ = L
      apply loop_upd hL (by simp (maxSteps := 4000000) (disch := first | (intros; contradiction) | omega) only [go_sem] <;> rfl) (α := Nat) (fun i => i ≤ kids.length) (fun i => kids.length - i) (fun i => [(7, .d (.int .i64 i))]) (fun _ => []) 0 (by simp (maxSteps := 4000000) (disch := first | (intros; contradiction) | omega) only [go_sem] <;> rfl) (Nat.zero_le _) ?_
      clear hL
      intro i hi next ih
      by_cases h : i < kids.length
      · have hlt : (i : Int) < ((kids.map Ex0.row).length : Int) := by omega
        have hi0 : (0 : Int) ≤ (i : Int) := by omega
        obtain ⟨x, hg⟩ : ∃ x, kids[i]? = some x := ⟨kids[i], List.getElem?_eq_getElem h⟩
        have hr : (kids.map Ex0.row)[i]? = some (Ex0.row x) := by rw [List.getElem?_map, hg]; rfl
        rw [Ex0.row_eq] at hr
        have hkc := hkid i x hg
        unfold Ex0.av eO at hkc
        have hw : IntKind.i64.wrap ((i : Int) + 1) = ((i + 1 : Nat) : Int) := by rw [wrap64 (by omega) (by omega)]; omega
        simp (maxSteps := 4000000) (disch := first | (intros; contradiction) | omega) only [go_sem, hlt, hi0, hr, hkc, hw]
        exact ih (i + 1) _ h (by omega) (by simp (maxSteps := 4000000) (disch := first | (intros; contradiction) | omega) only [go_sem] <;> rfl)
      · have hlt : ¬ (i : Int) < ((kids.map Ex0.row).length : Int) := by omega
        simp (maxSteps := 4000000) (disch := first | (intros; contradiction) | omega) only [go_sem, hlt]
        done
    by_cases c9 : kind = 9
    · subst c9
      obtain ⟨f1, f2⟩ := k2 (.inr rfl)
      have f1' := eq_true f1
      have f2' := eq_true f2
      clear k1 k2 k3 k4 k6 k7 k8
      simp (maxSteps := 4000000) (disch := first | (intros; contradiction) | omega) only [go_sem, hat, f1', f2']
      generalize hL : loopA _ _ _ = L
      apply loop_upd hL (by simp (maxSteps := 4000000) (disch := first | (intros; contradiction) | omega) only [go_sem] <;> rfl) (α := Nat) (fun i => i ≤ kids.length) (fun i => kids.length - i) (fun i => [(7, .d (.int .i64 i))]) (fun _ => []) 0 (by simp (maxSteps := 4000000) (disch := first | (intros; contradiction) | omega) only [go_sem] <;> rfl) (Nat.zero_le _) ?_
      clear hL
      intro i hi next ih
      by_cases h : i < kids.length
      · have hlt : (i : Int) < ((kids.map Ex0.row).length : Int) := by omega
        have hi0 : (0 : Int) ≤ (i : Int) := by omega
        obtain ⟨x, hg⟩ : ∃ x, kids[i]? = some x := ⟨kids[i], List.getElem?_eq_getElem h⟩
        have hr : (kids.map Ex0.row)[i]? = some (Ex0.row x) := by rw [List.getElem?_map, hg]; rfl
        rw [Ex0.row_eq] at hr
        have hkc := hkid i x hg
        unfold Ex0.av eO at hkc
        have hw : IntKind.i64.wrap ((i : Int) + 1) = ((i + 1 : Nat) : Int) := by rw [wrap64 (by omega) (by omega)]; omega
        simp (maxSteps := 4000000) (disch := first | (intros; contradiction) | omega) only [go_sem, hlt, hi0, hr, hkc, hw]
        exact ih (i + 1) _ h (by omega) (by simp (maxSteps := 4000000) (disch := first | (intros; contradiction) | omega) only [go_sem] <;> rfl)
      · have hlt : ¬ (i : Int) < ((kids.map Ex0.row).length : Int) := by omega
        simp (maxSteps := 4000000) (disch := first | (intros; contradiction) | omega) only [go_sem, hlt]
        done
    by_cases c3 : kind = 3
    · subst c3
      have f1' := eq_true (k3 rfl)
      clear k1 k2 k3 k4 k6 k7 k8
      simp (maxSteps := 4000000) (disch := first | (intros; contradiction) | omega) only [go_sem, hat, f1']
      generalize hL : loopA _ _ _ = L
      apply loop_upd hL (by simp (maxSteps := 4000000) (disch := first | (intros; contradiction) | omega) only [go_sem] <;> rfl) (α := Nat) (fun i => i ≤ kids.length) (fun i => kids.length - i) (fun i => [(7, .d (.int .i64 i))]) (fun _ => []) 0 (by simp (maxSteps := 4000000) (disch := first | (intros; contradiction) | omega) only [go_sem] <;> rfl) (Nat.zero_le _) ?_
      clear hL
      intro i hi next ih
      by_cases h : i < kids.length
      · have hlt : (i : Int) < ((kids.map Ex0.row).length : Int) := by omega
        have hi0 : (0 : Int) ≤ (i : Int) := by omega
        obtain ⟨x, hg⟩ : ∃ x, kids[i]? = some x := ⟨kids[i], List.getElem?_eq_getElem h⟩
        have hr : (kids.map Ex0.row)[i]? = some (Ex0.row x) := by rw [List.getElem?_map, hg]; rfl
        rw [Ex0.row_eq] at hr
        have hkc := hkid i x hg
        unfold Ex0.av eO at hkc
        have hw : IntKind.i64.wrap ((i : Int) + 1) = ((i + 1 : Nat) : Int) := by rw [wrap64 (by omega) (by omega)]; omega
        simp (maxSteps := 4000000) (disch := first | (intros; contradiction) | omega) only [go_sem, hlt, hi0, hr, hkc, hw]
        exact ih (i + 1) _ h (by omega) (by simp (maxSteps := 4000000) (disch := first | (intros; contradiction) | omega) only [go_sem] <;> rfl)
      · have hlt : ¬ (i : Int) < ((kids.map Ex0.row).length : Int) := by omega
        simp (maxSteps := 4000000) (disch := first | (intros; contradiction) | omega) only [go_sem, hlt]
        done
    by_cases c4 : kind = 4
    · subst c4
      have f1' := eq_true (k4 (.inl rfl))
      clear k1 k2 k3 k4 k6 k7 k8
      simp (maxSteps := 4000000) (disch := first | (intros; contradiction) | omega) only [go_sem, hat, f1']
      generalize hL : loopA _ _ _ = L
      apply loop_upd hL (by simp (maxSteps := 4000000) (disch := first | (intros; contradiction) | omega) only [go_sem] <;> rfl) (α := Nat) (fun i => i ≤ kids.length) (fun i => kids.length - i) (fun i => [(7, .d (.int .i64 i))]) (fun _ => []) 0 (by simp (maxSteps := 4000000) (disch := first | (intros; contradiction) | omega) only [go_sem] <;> rfl) (Nat.zero_le _) ?_
      clear hL
      intro i hi next ih
      by_cases h : i < kids.length
      · have hlt : (i : Int) < ((kids.map Ex0.row).length : Int) := by omega
        have hi0 : (0 : Int) ≤ (i : Int) := by omega
        obtain ⟨x, hg⟩ : ∃ x, kids[i]? = some x := ⟨kids[i], List.getElem?_eq_getElem h⟩
        have hr : (kids.map Ex0.row)[i]? = some (Ex0.row x) := by rw [List.getElem?_map, hg]; rfl
        rw [Ex0.row_eq] at hr
        have hkc := hkid i x hg
        unfold Ex0.av eO at hkc
        have hw : IntKind.i64.wrap ((i : Int) + 1) = ((i + 1 : Nat) : Int) := by rw [wrap64 (by omega) (by omega)]; omega
        simp (maxSteps := 4000000) (disch := first | (intros; contradiction) | omega) only [go_sem, hlt, hi0, hr, hkc, hw]
        exact ih (i + 1) _ h (by omega) (by simp (maxSteps := 4000000) (disch := first | (intros; contradiction) | omega) only [go_sem] <;> rfl)
      · have hlt : ¬ (i : Int) < ((kids.map Ex0.row).length : Int) := by omega
        simp (maxSteps := 4000000) (disch := first | (intros; contradiction) | omega) only [go_sem, hlt]
        done
    by_cases c5 : kind = 5
    · subst c5
      have f1' := eq_true (k4 (.inr rfl))
      clear k1 k2 k3 k4 k6 k7 k8
      simp (maxSteps := 4000000) (disch := first | (intros; contradiction) | omega) only [go_sem, hat, f1']
      generalize hL : loopA _ _ _ = L
      apply loop_upd hL (by simp (maxSteps := 4000000) (disch := first | (intros; contradiction) | omega) only [go_sem] <;> rfl) (α := Nat) (fun i => i ≤ kids.length) (fun i => kids.length - i) (fun i => [(7, .d (.int .i64 i))]) (fun _ => []) 0 (by simp (maxSteps := 4000000) (disch := first | (intros; contradiction) | omega) only [go_sem] <;> rfl) (Nat.zero_le _) ?_
      clear hL
      intro i hi next ih
      by_cases h : i < kids.length
      · have hlt : (i : Int) < ((kids.map Ex0.row).length : Int) := by omega
        have hi0 : (0 : Int) ≤ (i : Int) := by omega
        obtain ⟨x, hg⟩ : ∃ x, kids[i]? = some x := ⟨kids[i], List.getElem?_eq_getElem h⟩
        have hr : (kids.map Ex0.row)[i]? = some (Ex0.row x) := by rw [List.getElem?_map, hg]; rfl
        rw [Ex0.row_eq] at hr
        have hkc := hkid i x hg
        unfold Ex0.av eO at hkc
        have hw : IntKind.i64.wrap ((i : Int) + 1) = ((i + 1 : Nat) : Int) := by rw [wrap64 (by omega) (by omega)]; omega
        simp (maxSteps := 4000000) (disch := first | (intros; contradiction) | omega) only [go_sem, hlt, hi0, hr, hkc, hw]
        exact ih (i + 1) _ h (by omega) (by simp (maxSteps := 4000000) (disch := first | (intros; contradiction) | omega) only [go_sem] <;> rfl)
      · have hlt : ¬ (i : Int) < ((kids.map Ex0.row).length : Int) := by omega
        simp (maxSteps := 4000000) (disch := first | (intros; contradiction) | omega) only [go_sem, hlt]
        done
    by_cases c6 : kind = 6
    · subst c6
      have f1' := eq_true (k6 rfl)
      clear k1 k2 k3 k4 k6 k7 k8
      simp (maxSteps := 4000000) (disch := first | (intros; contradiction) | omega) only [go_sem, hat, f1']
      generalize hL : loopA _ _ _ = L
      apply loop_upd hL (by simp (maxSteps := 4000000) (disch := first | (intros; contradiction) | omega) only [go_sem] <;> rfl) (α := Nat) (fun i => i ≤ kids.length) (fun i => kids.length - i) (fun i => [(7, .d (.int .i64 i))]) (fun _ => []) 0 (by simp (maxSteps := 4000000) (disch := first | (intros; contradiction) | omega) only [go_sem] <;> rfl) (Nat.zero_le _) ?_
      clear hL
      intro i hi next ih
      by_cases h : i < kids.length
      · have hlt : (i : Int) < ((kids.map Ex0.row).length : Int) := by omega
        have hi0 : (0 : Int) ≤ (i : Int) := by omega
        obtain ⟨x, hg⟩ : ∃ x, kids[i]? = some x := ⟨kids[i], List.getElem?_eq_getElem h⟩
        have hr : (kids.map Ex0.row)[i]? = some (Ex0.row x) := by rw [List.getElem?_map, hg]; rfl
        rw [Ex0.row_eq] at hr
        have hkc := hkid i x hg
        unfold Ex0.av eO at hkc
        have hw : IntKind.i64.wrap ((i : Int) + 1) = ((i + 1 : Nat) : Int) := by rw [wrap64 (by omega) (by omega)]; omega
        simp (maxSteps := 4000000) (disch := first | (intros; contradiction) | omega) only [go_sem, hlt, hi0, hr, hkc, hw]
        exact ih (i + 1) _ h (by omega) (by simp (maxSteps := 4000000) (disch := first | (intros; contradiction) | omega) only [go_sem] <;> rfl)
      · have hlt : ¬ (i : Int) < ((kids.map Ex0.row).length : Int) := by omega
        simp (maxSteps := 4000000) (disch := first | (intros; contradiction) | omega) only [go_sem, hlt]
        done
    by_cases c7 : kind = 7
    · subst c7
      have f1' := eq_true (k7 rfl)
      clear k1 k2 k3 k4 k6 k7 k8
      simp (maxSteps := 4000000) (disch := first | (intros; contradiction) | omega) only [go_sem, hat, f1']
      generalize hL : loopA _ _ _ = L
      apply loop_upd hL (by simp (maxSteps := 4000000) (disch := first | (intros; contradiction) | omega) only [go_sem] <;> rfl) (α := Nat) (fun i => i ≤ kids.length) (fun i => kids.length - i) (fun i => [(7, .d (.int .i64 i))]) (fun _ => []) 0 (by simp (maxSteps := 4000000) (disch := first | (intros; contradiction) | omega) only [go_sem] <;> rfl) (Nat.zero_le _) ?_
      clear hL
      intro i hi next ih
      by_cases h : i < kids.length
      · have hlt : (i : Int) < ((kids.map Ex0.row).length : Int) := by omega
        have hi0 : (0 : Int) ≤ (i : Int) := by omega
        obtain ⟨x, hg⟩ : ∃ x, kids[i]? = some x := ⟨kids[i], List.getElem?_eq_getElem h⟩
        have hr : (kids.map Ex0.row)[i]? = some (Ex0.row x) := by rw [List.getElem?_map, hg]; rfl
        rw [Ex0.row_eq] at hr
        have hkc := hkid i x hg
        unfold Ex0.av eO at hkc
        have hw : IntKind.i64.wrap ((i : Int) + 1) = ((i + 1 : Nat) : Int) := by rw [wrap64 (by omega) (by omega)]; omega
        simp (maxSteps := 4000000) (disch := first | (intros; contradiction) | omega) only [go_sem, hlt, hi0, hr, hkc, hw]
        exact ih (i + 1) _ h (by omega) (by simp (maxSteps := 4000000) (disch := first | (intros; contradiction) | omega) only [go_sem] <;> rfl)
      · have hlt : ¬ (i : Int) < ((kids.map Ex0.row).length : Int) := by omega
        simp (maxSteps := 4000000) (disch := first | (intros; contradiction) | omega) only [go_sem, hlt]
        done
    by_cases c8 : kind = 8
    · subst c8
      have f1' := eq_true (k8 rfl)
      clear k1 k2 k3 k4 k6 k7 k8
      simp (maxSteps := 4000000) (disch := first | (intros; contradiction) | omega) only [go_sem, hat, f1']
      generalize hL : loopA _ _ _ = L
      apply loop_upd hL (by simp (maxSteps := 4000000) (disch := first | (intros; contradiction) | omega) only [go_sem] <;> rfl) (α := Nat) (fun i => i ≤ kids.length) (fun i => kids.length - i) (fun i => [(7, .d (.int .i64 i))]) (fun _ => []) 0 (by simp (maxSteps := 4000000) (disch := first | (intros; contradiction) | omega) only [go_sem] <;> rfl) (Nat.zero_le _) ?_
      clear hL
      intro i hi next ih
      by_cases h : i < kids.length
      · have hlt : (i : Int) < ((kids.map Ex0.row).length : Int) := by omega
        have hi0 : (0 : Int) ≤ (i : Int) := by omega
        obtain ⟨x, hg⟩ : ∃ x, kids[i]? = some x := ⟨kids[i], List.getElem?_eq_getElem h⟩
        have hr : (kids.map Ex0.row)[i]? = some (Ex0.row x) := by rw [List.getElem?_map, hg]; rfl
        rw [Ex0.row_eq] at hr
        have hkc := hkid i x hg
        unfold Ex0.av eO at hkc
        have hw : IntKind.i64.wrap ((i : Int) + 1) = ((i + 1 : Nat) : Int) := by rw [wrap64 (by omega) (by omega)]; omega
        simp (maxSteps := 4000000) (disch := first | (intros; contradiction) | omega) only [go_sem, hlt, hi0, hr, hkc, hw]
        exact ih (i + 1) _ h (by omega) (by simp (maxSteps := 4000000) (disch := first | (intros; contradiction) | omega) only [go_sem] <;> rfl)
      · have hlt : ¬ (i : Int) < ((kids.map Ex0.row).length : Int) := by omega
        simp (maxSteps := 4000000) (disch := first | (intros; contradiction) | omega) only [go_sem, hlt]
        done
    · clear k1 k2 k3 k4 k6 k7 k8
      simp (maxSteps := 4000000) (disch := first | (intros; contradiction) | omega) only [go_sem, hat, c1, c2, c3, c4, c5, c6, c7, c8, c9]
      generalize hL : loopA _ _ _ = L
      apply loop_upd hL (by simp (maxSteps := 4000000) (disch := first | (intros; contradiction) | omega) only [go_sem] <;> rfl) (α := Nat) (fun i => i ≤ kids.length) (fun i => kids.length - i) (fun i => [(7, .d (.int .i64 i))]) (fun _ => []) 0 (by simp (maxSteps := 4000000) (disch := first | (intros; contradiction) | omega) only [go_sem] <;> rfl) (Nat.zero_le _) ?_
      clear hL
      intro i hi next ih
      by_cases h : i < kids.length
      · have hlt : (i : Int) < ((kids.map Ex0.row).length : Int) := by omega
        have hi0 : (0 : Int) ≤ (i : Int) := by omega
        obtain ⟨x, hg⟩ : ∃ x, kids[i]? = some x := ⟨kids[i], List.getElem?_eq_getElem h⟩
        have hr : (kids.map Ex0.row)[i]? = some (Ex0.row x) := by rw [List.getElem?_map, hg]; rfl
        rw [Ex0.row_eq] at hr
        have hkc := hkid i x hg
        unfold Ex0.av eO at hkc
        have hw : IntKind.i64.wrap ((i : Int) + 1) = ((i + 1 : Nat) : Int) := by rw [wrap64 (by omega) (by omega)]; omega
        simp (maxSteps := 4000000) (disch := first | (intros; contradiction) | omega) only [go_sem, hlt, hi0, hr, hkc, hw]
        exact ih (i + 1) _ h (by omega) (by simp (maxSteps := 4000000) (disch := first | (intros; contradiction) | omega) only [go_sem] <;> rfl)
      · have hlt : ¬ (i : Int) < ((kids.map Ex0.row).length : Int) := by omega
        simp (maxSteps := 4000000) (disch := first | (intros; contradiction) | omega) only [go_sem, hlt]
        done
set_option maxHeartbeats 8000000 in
theorem all_e (hx : T0 ext) (ts : List Tok) (hl : ts.length ≤ 1000000) : ∀ n ss, cntL ss ≤ n → ss.length ≤ 1000000 → (∀ s, s ∈ ss → StS ts s) → G ext 8 [.d (.sl (ts.map Tok.row)), .d (.sl (ss.map St0.row))] [] = some (.ret (.d (.bool true)), []) := by
  intro n
  induction n with
  | zero =>
    intro ss hc hsl _
    have : ss = [] := by
      cases ss with
      | nil => rfl
      | cons s ss => have := cntS_eq s; simp only [cntL] at hc; omega
    subst this
    simp only [List.map_nil]
    rw [G_body hx.clear rfl Try.func8 rfl Try.results8 hv_8 rfl]
    simp (maxSteps := 4000000) (disch := first | (intros; contradiction) | omega) only [go_sem]
    rw [loopA_eq]
    simp (maxSteps := 4000000) (disch := first | (intros; contradiction) | omega) only [go_sem]
    done
  | succ n ihn =>
    intro ss hc hsl hs
    have hll : (ss.map St0.row).length = ss.length := List.length_map _
    rw [G_body hx.clear rfl Try.func8 rfl Try.results8 hv_8 rfl]
    simp (maxSteps := 4000000) (disch := first | (intros; contradiction) | omega) only [go_sem]
    generalize hL : loopA _ _ _ = L
    apply loop_upd hL (by simp (maxSteps := 4000000) (disch := first | (intros; contradiction) | omega) only [go_sem] <;> rfl) (α := Nat) (fun i => i ≤ ss.length) (fun i => ss.length - i) (fun i => [(5, .d (.int .i64 i)), (6, .any)]) (fun _ => []) 0 (by simp (maxSteps := 4000000) (disch := first | (intros; contradiction) | omega) only [go_sem] <;> rfl) (Nat.zero_le _) ?_
    clear hL
    intro i hi next ih
    by_cases h : i < ss.length
    · have hlt : (i : Int) < ((ss.map St0.row).length : Int) := by omega
      have hi0 : (0 : Int) ≤ (i : Int) := by omega
      obtain ⟨s, hg⟩ : ∃ s, ss[i]? = some s := ⟨ss[i], List.getElem?_eq_getElem h⟩
      have hr : (ss.map St0.row)[i]? = some (St0.row s) := by rw [List.getElem?_map, hg]; rfl
      rw [St0.row_eq] at hr
      have hm := List.mem_of_getElem? hg
      obtain ⟨⟨b1, b2, b3⟩, q1, q2, q3⟩ := StS_eq.1 (hs s hm)
      have hcs := cntL_mem hm
      rw [cntS_eq] at hcs
      have e2 := ihn s.body (by omega) b2 q2
      have e3 := ihn s.els (by omega) b3 q3
      have hel : (s.e.map Ex0.row).length = s.e.length := List.length_map _
      have hw : IntKind.i64.wrap ((i : Int) + 1) = ((i + 1 : Nat) : Int) := by rw [wrap64 (by omega) (by omega)]; omega
      simp (maxSteps := 4000000) (disch := first | (intros; contradiction) | omega) only [go_sem, hlt, hi0, hr]
      generalize hL : loopA _ _ _ = L
      apply loop_upd hL (by simp (maxSteps := 4000000) (disch := first | (intros; contradiction) | omega) only [go_sem] <;> rfl) (α := Nat) (fun j => j ≤ s.e.length) (fun j => s.e.length - j) (fun j => [(6, .d (.int .i64 j))]) (fun _ => []) 0 (by simp (maxSteps := 4000000) (disch := first | (intros; contradiction) | omega) only [go_sem] <;> rfl) (Nat.zero_le _) ?_
      clear hL
      intro j hj next2 ih2
      by_cases h2 : j < s.e.length
      · have hlt2 : (j : Int) < ((s.e.map Ex0.row).length : Int) := by omega
        have hj0 : (0 : Int) ≤ (j : Int) := by omega
        obtain ⟨x, hg2⟩ : ∃ x, s.e[j]? = some x := ⟨s.e[j], List.getElem?_eq_getElem h2⟩
        have hr2 : (s.e.map Ex0.row)[j]? = some (Ex0.row x) := by rw [List.getElem?_map, hg2]; rfl
        rw [Ex0.row_eq] at hr2
        obtain ⟨g1, g2⟩ := q1 x (List.mem_of_getElem? hg2)
        have hst := stands_e hx ts hl (cntE x) x (Nat.le_refl _) g2 g1
        unfold Ex0.av eO at hst
        have hw2 : IntKind.i64.wrap ((j : Int) + 1) = ((j + 1 : Nat) : Int) := by rw [wrap64 (by omega) (by omega)]; omega
        clear ih
        simp (maxSteps := 4000000) (disch := first | (intros; contradiction) | omega) only [go_sem, hi0, hr, hlt2, hj0, hr2, hst, hw2]
        exact ih2 (j + 1) _ h2 (by omega) (by simp (maxSteps := 4000000) (disch := first | (intros; contradiction) | omega) only [go_sem] <;> rfl)
      · have hlt2 : ¬ (j : Int) < ((s.e.map Ex0.row).length : Int) := by omega
        clear ih2
        simp (maxSteps := 4000000) (disch := first | (intros; contradiction) | omega) only [go_sem, hi0, hr, hlt2, e2, e3, hw]
        exact ih (i + 1) _ h (by omega) (by simp (maxSteps := 4000000) (disch := first | (intros; contradiction) | omega) only [go_sem] <;> rfl)
    · have hlt : ¬ (i : Int) < ((ss.map St0.row).length : Int) := by omega
      simp (maxSteps := 4000000) (disch := first | (intros; contradiction) | omega) only [go_sem, hlt]
      done
/-- Tokens that are placed stand in places of their own. -/
theorem placed_pos (s : Str) : ∀ (ts : List Tok) (a : Nat), Placed s ts a → ∀ t, t ∈ ts → ∃ o, a ≤ o ∧ o ≤ s.length ∧ t.pos = adv (1, 1) (s.take o)
  | [], _, _, _, h => by cases h
  | t :: ts, a, hp, u, hu => by
    obtain ⟨o, h1, h2, h3, _, _, h4, h5⟩ := hp
    rcases List.mem_cons.1 hu with rfl | hu
    · exact ⟨o, h1, by omega, h3⟩
    · have hne : ts ≠ [] := by rintro rfl; cases hu
      obtain ⟨o', k1, k2, k3⟩ := placed_pos s ts _ (h5 hne) u hu
      exact ⟨o', by omega, k2, k3⟩
theorem placed_uniq (s : Str) : ∀ (ts : List Tok) (a : Nat), Placed s ts a → Uniq ts
  | [], _, h => by exact h.elim
  | t :: ts, a, hp => by
    obtain ⟨o, h1, h2, h3, _, _, h4, h5⟩ := hp
    unfold Uniq
    rw [List.map_cons, List.nodup_cons]
    by_cases hne : ts = []
    · subst hne; simp
    · have hl : t.text.length ≠ 0 := fun h => hne (h4.1 h)
      refine ⟨fun hm => ?_, placed_uniq s ts _ (h5 hne)⟩
      obtain ⟨u, hu, he⟩ := List.mem_map.1 hm
      obtain ⟨o', k1, k2, k3⟩ := placed_pos s ts _ (h5 hne) u hu
      rw [h3, k3] at he
      exact adv_ne (a := o) (o := o') (by omega) k2 (1, 1) he.symm
set_option maxHeartbeats 8000000 in
theorem places_e (hx : T6 ext) (s : Str) (hs : s.length ≤ 9223372036854775807) : G ext 3 [.d (.str s)] [] = some (.ret (.d (.bool true)), []) := by
  have hal := alive2_e hx
  by_cases hlen : (1500 : Int) < s.length
  · rw [G_body hx.clear rfl Try.func3 rfl Try.results3 hv_3 rfl]
    simp (maxSteps := 4000000) (disch := first | (intros; contradiction) | omega) only [go_sem, hlen, hal]
    done
  · have hr := scan_e hx.tx s
    have ht := ptext_e hx.toT5 s (by omega)
    have key : (textT s).2.what = 0 → ∃ ts, OkT ts ∧ (scanR (eachL s)).1 = ts ∧ (∀ f, f ∈ (textT s).1.funcs → StF ts f) ∧ (textT s).1.funcs.length ≤ 1000000 := by
      intro h0
      rcases eachL_shape s with hg | ⟨gs, d, he, hd, hg⟩
      · have hok := toks_ended (by omega) hg
        have hu := placed_uniq s _ _ (eachL_placed (by omega) hg)
        refine ⟨_, hok, by rw [scanR_good hg], ?_⟩
        unfold textT at h0 ⊢
        rw [scanR_good hg] at h0 ⊢
        rw [if_neg (by simp [Dg.zero])] at h0 ⊢
        exact parseT_stands hu hok
      · unfold textT at h0
        rw [he, scanR_bad hg hd, if_pos hd] at h0
        exact absurd h0 hd
    have key2 : (textT s).2.what ≠ 0 → (textT s).1 = ⟨[], []⟩ := by
      unfold textT parseT
      split
      · intro _; rfl
      · split
        · intro h; exact absurd rfl h
        · intro _; rfl
    generalize (textT s).1 = p at *
    generalize (textT s).2 = d at *
    unfold Pr0.av Dg.av at ht
    unfold Dg.av at hr
    by_cases h0 : d.what = 0
    · obtain ⟨ts, hok, e1, hst, hfl⟩ := key h0
      rw [e1] at hr
      unfold rowsT at hr
      have hfew := hok.few
      have h0' := eq_true h0
      have hll : (p.funcs.map Fn0.row).length = p.funcs.length := List.length_map _
      clear key key2
      rw [G_body hx.clear rfl Try.func3 rfl Try.results3 hv_3 rfl]
      simp (maxSteps := 4000000) (disch := first | (intros; contradiction) | omega) only [go_sem, hlen, hr, ht, h0']
      generalize hL : loopA _ _ _ = L
      apply loop_upd hL (by simp (maxSteps := 4000000) (disch := first | (intros; contradiction) | omega) only [go_sem] <;> rfl) (α := Nat) (fun i => i ≤ p.funcs.length) (fun i => p.funcs.length - i) (fun i => [(7, .d (.int .i64 i))]) (fun _ => []) 0 (by simp (maxSteps := 4000000) (disch := first | (intros; contradiction) | omega) only [go_sem] <;> rfl) (Nat.zero_le _) ?_
      clear hL
      intro i hi next ih
      by_cases h : i < p.funcs.length
      · have hlt : (i : Int) < ((p.funcs.map Fn0.row).length : Int) := by omega
        have hi0 : (0 : Int) ≤ (i : Int) := by omega
        obtain ⟨f, hg⟩ : ∃ x, p.funcs[i]? = some x := ⟨p.funcs[i], List.getElem?_eq_getElem h⟩
        have hr1 : (p.funcs.map Fn0.row)[i]? = some (Fn0.row f) := by rw [List.getElem?_map, hg]; rfl
        simp only [Fn0.row] at hr1
        obtain ⟨f1, f2⟩ := hst f (List.mem_of_getElem? hg)
        have ha := all_e hx.toT5.toT0 ts hfew _ f.body (Nat.le_refl _) f2 f1
        have hw : IntKind.i64.wrap ((i : Int) + 1) = ((i + 1 : Nat) : Int) := by rw [wrap64 (by omega) (by omega)]; omega
        simp (maxSteps := 4000000) (disch := first | (intros; contradiction) | omega) only [go_sem, hlt, hi0, hr1, ha, hw]
        exact ih (i + 1) _ h (by omega) (by simp (maxSteps := 4000000) (disch := first | (intros; contradiction) | omega) only [go_sem] <;> rfl)
      · have hlt : ¬ (i : Int) < ((p.funcs.map Fn0.row).length : Int) := by omega
        simp (maxSteps := 4000000) (disch := first | (intros; contradiction) | omega) only [go_sem, hlt, hal]
        done
    · have hp := key2 h0
      subst hp
      simp only [List.map_nil] at ht
      clear key key2
      have hz : IntKind.i64.wrap 0 = 0 := rfl
      rw [G_body hx.clear rfl Try.func3 rfl Try.results3 hv_3 rfl]
      simp (maxSteps := 4000000) (disch := first | (intros; contradiction) | omega) only [go_sem, hlen, hr, ht, h0, hal, hz]
      done
end Go.Proofs.Ytlcbnlfbbjmpbaa
