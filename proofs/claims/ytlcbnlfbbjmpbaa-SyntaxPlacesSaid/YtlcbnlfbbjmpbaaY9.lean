/- What stands ahead of a '='. Conditions: none. -/
import Derived.Test.YtlcbnlfbbjmpbaaY8
set_option linter.unusedSimpArgs false
set_option linter.unusedVariables false
namespace Go.Proofs.Ytlcbnlfbbjmpbaa
open Go Go.Ab
variable {ext : Sem'}
theorem row1 {l : List Tok} (hl : OkT l.tail) : (l.map Tok.row)[1]? = some [.int .i64 (hdT l.tail).kind, .str (hdT l.tail).text, .int .i64 (hdT l.tail).num, .int .i64 (hdT l.tail).pos.1, .int .i64 (hdT l.tail).pos.2] := by
  cases l with
  | nil => obtain ⟨t, r, h⟩ := hl.ne; cases h
  | cons a l =>
    obtain ⟨t, r, h⟩ := hl.ne
    simp only [List.tail_cons] at h
    subst h
    rfl
set_option maxHeartbeats 2000000 in
theorem typed_l (hx : T0 ext) {l : List Tok} (hl : OkT l) (d : Nat) : G ext 92 [.ptr 0 0] [pO l d] = some (.ret (.d (.bool (typedT l))), [pO l d]) := by
  have hi := is_l hx hl d [105, 110, 116]
  have hr0 := row0 hl
  unfold typedT
  cases hn : isT l [105, 110, 116] with
  | true =>
    rw [hn] at hi
    rw [G_body hx.clear rfl Try.func92 rfl Try.results92 hv_92 rfl]
    simp (maxSteps := 4000000) (disch := first | (intros; contradiction) | omega) only [go_sem, hi, Bool.true_or]
    done
  | false =>
    rw [hn] at hi
    rw [Bool.false_or]
    by_cases h1 : (hdT l).kind = 1
    · have h1' := eq_true h1
      obtain ⟨hl1, _⟩ := hl.step (by omega)
      have hr1 := row1 hl1
      by_cases h4 : (hdT l.tail).kind = 4
      · have h4' := eq_true h4
        by_cases ht : (hdT l.tail).text = [42]
        · have ht' := eq_true ht
          rw [G_body hx.clear rfl Try.func92 rfl Try.results92 hv_92 rfl]
          simp (maxSteps := 4000000) (disch := first | (intros; contradiction) | omega) only [go_sem, hi, hr0, hr1, h1', h4', ht']
          done
        · rw [G_body hx.clear rfl Try.func92 rfl Try.results92 hv_92 rfl]
          simp (maxSteps := 4000000) (disch := first | (intros; contradiction) | omega) only [go_sem, hi, hr0, hr1, h1', h4', ht]
          done
      · rw [G_body hx.clear rfl Try.func92 rfl Try.results92 hv_92 rfl]
        simp (maxSteps := 4000000) (disch := first | (intros; contradiction) | omega) only [go_sem, hi, hr0, hr1, h1', h4]
        done
    · rw [G_body hx.clear rfl Try.func92 rfl Try.results92 hv_92 rfl]
      simp (maxSteps := 4000000) (disch := first | (intros; contradiction) | omega) only [go_sem, hi, hr0, h1]
      done
set_option maxHeartbeats 4000000 in
theorem target_l (hx : T0 ext) {m d : Nat} (hE : RunE ext m d) (first : Tok) (p : Po) {l : List Tok} (hl : OkT l) :
    RunP (targetT (exprT m) first p l) (fun s l' => (.ret s.agg, [pO l' d])) Qp (G ext 93 [.ptr 0 0, st0V 0 p, first.av] [pO l d]) := by
  unfold targetT st0V Tok.av
  have hlf := leaf_l hx 2 0 first.text [] first.pos.1 first.pos.2
  unfold hiA at hlf
  rw [G_body hx.clear rfl Try.func93 rfl Try.results93 hv_93 rfl]
  simp (maxSteps := 4000000) (disch := first | (intros; contradiction) | omega) only [go_sem, hlf]
  generalize hL : loopA _ _ _ = L
  apply loop_upd hL (by simp (maxSteps := 4000000) (disch := first | (intros; contradiction) | omega) only [go_sem] <;> rfl) (α := Int × Str × Ex0 × Po × List Tok × Nat) (fun s => OkT s.2.2.2.2.1 ∧ s.2.2.2.2.1.length ≤ s.2.2.2.2.2 ∧ hgtE s.2.2.1 ≤ 200 ∧ (s.1 = 2 ∨ s.1 = 3) ∧ targetL s.2.2.2.2.2 s.1 s.2.1 s.2.2.1 s.2.2.2.1 s.2.2.2.2.1 = targetL l.length 2 first.text (.mk 2 0 first.text [] [] ⟨first.pos.1, first.pos.2⟩) ⟨0, 0⟩ l)
    (fun s => s.2.2.2.2.1.length) (fun s => [(9, .any), (10, .any)]) (fun s => [(0, pO s.2.2.2.2.1 d), (1, .cells [.d (.int .i64 s.1), .d (.bool false), .d (.str []), .d (.str s.2.1), .grow 4 0 [], .full [], .full [], .d (.int .i64 p.line), .d (.int .i64 p.col)]), (5, hO (some s.2.2.1)), (6, .cells [.d (.int .i64 s.2.2.2.1.line), .d (.int .i64 s.2.2.2.1.col)])])
    (2, first.text, .mk 2 0 first.text [] [] ⟨first.pos.1, first.pos.2⟩, ⟨0, 0⟩, l, l.length) (by unfold hO; simp only [hiC]; simp (maxSteps := 4000000) (disch := first | (intros; contradiction) | omega) only [go_sem] <;> rfl) ⟨hl, Nat.le_refl _, by simp [hgtE, hgtEs], .inl rfl, rfl⟩ ?_
  clear hL
  rintro ⟨k, nm, e, last, l1, n⟩ ⟨i1, i2, i3, i4, i5⟩ next ih
  simp only at i1 i2 i3 i4 i5 ih ⊢
  rw [← i5] at ih ⊢
  have hi1 := is_l hx i1 d [45, 62]
  cases n with
  | zero => obtain ⟨t, r, rfl⟩ := i1.ne; simp at i2
  | succ n =>
    simp only [targetL] at ih ⊢
    cases hw : isT l1 [45, 62] with
    | true =>
      rw [hw, if_pos rfl] at ih
      rw [if_pos rfl]
      rw [hw] at hi1
      have hst := step_l hx i1 d (isT_kind hw)
      unfold Tok.av at hst
      obtain ⟨j1, j2⟩ := i1.step (isT_kind hw)
      have hnm := name_l hx j1 d
      cases hnv : nameT l1.tail with
      | error dg =>
        obtain ⟨g, q2, l9, k9, rfl⟩ := hnm.er' hnv
        refine ⟨_, ?_, l9, k9, rfl⟩
        unfold hO
        simp only [hiC]
        simp (maxSteps := 4000000) (disch := first | (intros; contradiction) | omega) only [go_sem, hi1, hst, q2]
        done
      | ok r =>
        obtain ⟨t, l2⟩ := r
        have q2 := hnm.ok' hnv
        unfold Tok.av at q2
        obtain ⟨m1, m2, _⟩ := nameT_ok j1 hnv
        rw [hnv] at ih
        simp only [PR.andThen] at ih ⊢
        rcases i4 with rfl | rfl
        · rw [if_neg (by omega)] at ih ⊢
          simp only at ih ⊢
          unfold posT at ih
          unfold hO at ih ⊢
          simp only [hiC] at ih ⊢
          simp (maxSteps := 4000000) (disch := first | (intros; contradiction) | omega) only [go_sem, hi1, hst, q2]
          exact ih (3, t.text, e, ⟨(hdT l1).pos.1, (hdT l1).pos.2⟩, l2, n) _ ⟨m1, by simp only; omega, i3, .inr rfl, rfl⟩ (by simp only; omega) (by simp (maxSteps := 4000000) (disch := first | (intros; contradiction) | omega) only [go_sem] <;> rfl)
        · rw [if_pos rfl] at ih ⊢
          have hb := built_l hx 3 0 nm [] [e] last.line last.col (by simp) (fun x hx => by cases List.mem_singleton.1 hx; exact i3) l2
          simp only [List.map_cons, List.map_nil, hiR] at hb
          unfold posT at ih
          cases hbt : builtT (.mk 3 0 nm [] [e] last) l2 with
          | error dg =>
            obtain ⟨g, q3, rfl⟩ := hb.er' hbt
            refine ⟨_, ?_, l2, d, rfl⟩
            unfold hO
            simp only [hiC]
            simp (maxSteps := 4000000) (disch := first | (intros; contradiction) | omega) only [go_sem, hi1, hst, q2, q3]
            done
          | ok r =>
            obtain ⟨x, l3⟩ := r
            have q3 := hb.ok' hbt
            rw [hbt] at ih
            obtain ⟨rfl, rfl, hh⟩ := builtT_ok hbt
            unfold hiA at q3
            simp only at ih ⊢
            unfold hO at ih ⊢
            simp only [hiC] at ih ⊢
            simp (maxSteps := 4000000) (disch := first | (intros; contradiction) | omega) only [go_sem, hi1, hst, q2, q3]
            exact ih (3, t.text, .mk 3 0 nm [] [e] last, ⟨(hdT l1).pos.1, (hdT l1).pos.2⟩, l3, n) _ ⟨m1, by simp only; omega, hh, .inr rfl, rfl⟩ (by simp only; omega) (by simp (maxSteps := 4000000) (disch := first | (intros; contradiction) | omega) only [go_sem] <;> rfl)
    | false =>
      rw [if_neg (by simp)]
      rw [hw] at hi1
      clear ih
      have hroom1 : room 1 88 := by unfold room; omega
      have hroom2 : room 2 88 := by unfold room; omega
      simp only [PR.andThen]
      have hea := eat_l hx i1 d [61]
      cases hev : eatT [61] l1 with
      | error dg =>
        obtain ⟨g, q2, l9, k9, rfl⟩ := hea.er' hev
        refine ⟨_, ?_, l9, k9, rfl⟩
        simp (maxSteps := 4000000) (disch := first | (intros; contradiction) | omega) only [go_sem, hi1, q2]
        done
      | ok r =>
        obtain ⟨u, l2⟩ := r
        have q2 := hea.ok' hev
        obtain ⟨m1, m2, _⟩ := eatT_ok i1 hev
        simp only
        have hex := hE l2 m1
        rcases i4 with rfl | rfl
        · cases hxv : exprT m l2 with
          | error dg =>
            obtain ⟨g, q3, l9, k9, rfl⟩ := hex.er' hxv
            refine ⟨_, ?_, l9, k9, rfl⟩
            simp (maxSteps := 4000000) (disch := first | (intros; contradiction) | omega) only [go_sem, hi1, q2, q3]
            done
          | ok r =>
            obtain ⟨x, l3⟩ := r
            have q3 := hex.ok' hxv
            unfold hiA at q3
            simp only
            rw [if_neg (by omega)]
            simp only [RunP, St0.agg, St0.kind, St0.t, St0.name, St0.e, St0.body, St0.els, St0.pos, List.map_cons, List.map_nil, Ex0.row_eq]
            simp (maxSteps := 4000000) (disch := first | (intros; contradiction) | omega) only [go_sem, hi1, q2, q3, hroom1]
            done
        · unfold hO
          simp only [hiC]
          cases hxv : exprT m l2 with
          | error dg =>
            obtain ⟨g, q3, l9, k9, rfl⟩ := hex.er' hxv
            refine ⟨_, ?_, l9, k9, rfl⟩
            simp (maxSteps := 4000000) (disch := first | (intros; contradiction) | omega) only [go_sem, hi1, q2, q3, hroom1]
            done
          | ok r =>
            obtain ⟨x, l3⟩ := r
            have q3 := hex.ok' hxv
            unfold hiA at q3
            simp only
            rw [if_pos trivial]
            simp only [RunP, St0.agg, St0.kind, St0.t, St0.name, St0.e, St0.body, St0.els, St0.pos, List.map_cons, List.map_nil, Ex0.row_eq]
            simp (maxSteps := 4000000) (disch := first | (intros; contradiction) | omega) only [go_sem, hi1, q2, q3, hroom1, hroom2]
            done
end Go.Proofs.Ytlcbnlfbbjmpbaa
