/- Expressions: the parser gives what the plain one gives. Conditions: none. -/
import Derived.Test.YtlcbnlfbbjmpbaaY5
set_option linter.unusedSimpArgs false
set_option linter.unusedVariables false
namespace Go.Proofs.Ytlcbnlfbbjmpbaa
open Go Go.Ab
variable {ext : Sem'}
theorem unaryK_sign (U E : Option (List Tok → PR Ex0)) (l : List Tok) : unaryK U E l = if anyT l [[45], [33]] then signT U l else PR.andThen (primT E l) fun e l' => arrowL l'.length e l' := by
  unfold unaryK signT
  cases U <;> rfl
set_option maxHeartbeats 2000000 in
theorem unary_l (hx : T0 ext) {m d : Nat} (hmd : m + d = 200) (hU : ∀ k, m = k + 1 → RunU ext k (d + 1)) (hE : ∀ k, m = k + 1 → RunE ext k (d + 1)) : RunU ext m d := by
  intro l hl
  rw [unaryT_eq, unaryK_sign]
  have hi := any_l hx hl d [[45], [33]] (by simp)
  simp only [List.map_cons, List.map_nil] at hi
  cases hs : anyT l [[45], [33]] with
  | true =>
    rw [if_pos rfl]
    rw [hs] at hi
    have hc := level_unary hx hmd hU hl (anyT_kind hs)
    unfold hO at hc
    simp only [hiC] at hc
    cases hp : signT (lowU m) l with
    | error dg =>
      obtain ⟨h, q1, l9, k9, o9, rfl⟩ := hc.er' hp
      refine ⟨_, ?_, l9, k9, rfl⟩
      rw [G_body hx.clear rfl Try.func88 rfl Try.results88 hv_88 rfl]
      simp (maxSteps := 4000000) (disch := first | (intros; contradiction) | omega) only [go_sem, hi, q1]
      done
    | ok r =>
      obtain ⟨e, l1⟩ := r
      have q1 := hc.ok' hp
      simp only [RunP, hiA]
      rw [G_body hx.clear rfl Try.func88 rfl Try.results88 hv_88 rfl]
      simp (maxSteps := 4000000) (disch := first | (intros; contradiction) | omega) only [go_sem, hi, q1]
      done
  | false =>
    rw [if_neg (by simp)]
    rw [hs] at hi
    have hpr := prim_l hx hmd hE hl
    cases hp : primT (lowE m) l with
    | error dg =>
      obtain ⟨h, q1, l9, k9, rfl⟩ := hpr.er' hp
      refine ⟨_, ?_, l9, k9, rfl⟩
      rw [G_body hx.clear rfl Try.func88 rfl Try.results88 hv_88 rfl]
      simp (maxSteps := 4000000) (disch := first | (intros; contradiction) | omega) only [go_sem, hi, q1]
      done
    | ok r =>
      obtain ⟨e0, l0⟩ := r
      have q1 := hpr.ok' hp
      unfold hiA at q1
      obtain ⟨k1, k2, k3⟩ := primT_ok (lowE_ok m) l hl e0 l0 hp
      simp only [PR.andThen]
      rw [G_body hx.clear rfl Try.func88 rfl Try.results88 hv_88 rfl]
      simp (maxSteps := 4000000) (disch := first | (intros; contradiction) | omega) only [go_sem, hi, q1]
      generalize hL : loopA _ _ _ = L
      apply loop_upd hL (by simp (maxSteps := 4000000) (disch := first | (intros; contradiction) | omega) only [go_sem] <;> rfl) (α := Ex0 × List Tok × Nat) (fun s => OkT s.2.1 ∧ s.2.1.length ≤ s.2.2 ∧ hgtE s.1 ≤ 200 ∧ arrowL s.2.2 s.1 s.2.1 = arrowL l0.length e0 l0)
        (fun s => s.2.1.length) (fun s => []) (fun s => [(0, pO s.2.1 d), (2, hO (some s.1))]) (e0, l0, l0.length) (by unfold hO; simp only [hiC]; simp (maxSteps := 4000000) (disch := first | (intros; contradiction) | omega) only [go_sem] <;> rfl) ⟨k1, Nat.le_refl _, k3, rfl⟩ ?_
      clear hL
      rintro ⟨e, l1, n⟩ ⟨i1, i2, i3, i4⟩ next ih
      simp only at i1 i2 i3 i4 ih ⊢
      rw [← i4] at ih ⊢
      have hi1 := is_l hx i1 d [45, 62]
      cases n with
      | zero => obtain ⟨t, r, rfl⟩ := i1.ne; simp at i2
      | succ n =>
        simp only [arrowL] at ih ⊢
        cases hw : isT l1 [45, 62] with
        | false =>
          rw [if_neg (by simp)]
          rw [hw] at hi1
          unfold hO
          simp only [RunP, hiA, hiC]
          simp (maxSteps := 4000000) (disch := first | (intros; contradiction) | omega) only [go_sem, hi1]
          done
        | true =>
          rw [hw, if_pos rfl] at ih
          rw [if_pos rfl]
          rw [hw] at hi1
          have hst := step_l hx i1 d (isT_kind hw)
          unfold Tok.av at hst
          obtain ⟨j1, j2⟩ := i1.step (isT_kind hw)
          have hnm := name_l hx j1 d
          cases hnv : nameT l1.tail with
          | error dg =>
            obtain ⟨g, q2, l9, k9, rfl⟩ := hnm.er' hnv
            refine ⟨_, ?_, l9, k9, rfl⟩
            unfold hO
            simp only [hiC]
            simp (maxSteps := 4000000) (disch := first | (intros; contradiction) | omega) only [go_sem, hi1, hst, q2]
            done
          | ok r =>
            obtain ⟨t, l2⟩ := r
            have q2 := hnm.ok' hnv
            unfold Tok.av at q2
            obtain ⟨m1, m2, _⟩ := nameT_ok j1 hnv
            rw [hnv] at ih
            simp only [PR.andThen] at ih ⊢
            have hb := built_l hx 3 0 t.text [] [e] (hdT l1).pos.1 (hdT l1).pos.2 (by simp) (fun x hx => by cases List.mem_singleton.1 hx; exact i3) l2
            simp only [List.map_cons, List.map_nil, hiR] at hb
            unfold posT at ih ⊢
            cases hbt : builtT (.mk 3 0 t.text [] [e] ⟨(hdT l1).pos.1, (hdT l1).pos.2⟩) l2 with
            | error dg =>
              obtain ⟨g, q3, rfl⟩ := hb.er' hbt
              refine ⟨_, ?_, l2, d, rfl⟩
              unfold hO
              simp only [hiC]
              simp (maxSteps := 4000000) (disch := first | (intros; contradiction) | omega) only [go_sem, hi1, hst, q2, q3]
              done
            | ok r =>
              obtain ⟨x, l3⟩ := r
              have q3 := hb.ok' hbt
              rw [hbt] at ih
              obtain ⟨rfl, rfl, hh⟩ := builtT_ok hbt
              unfold hiA at q3
              unfold hO at ih ⊢
              simp only [hiC] at ih ⊢
              simp (maxSteps := 4000000) (disch := first | (intros; contradiction) | omega) only [go_sem, hi1, hst, q2, q3]
              exact ih (.mk 3 0 t.text [] [e] ⟨(hdT l1).pos.1, (hdT l1).pos.2⟩, l3, n) _ ⟨m1, by simp only; omega, hh, rfl⟩ (by simp only; omega) (by simp (maxSteps := 4000000) (disch := first | (intros; contradiction) | omega) only [go_sem] <;> rfl)
set_option maxHeartbeats 2000000 in
theorem left_l (hx : T0 ext) {P : List Tok → PR Ex0} {F d : Nat} (hG : GoodE P) (hF : RunF ext F [.ptr 0 0] d hiA P) (ops : List Str) (ho : ops.length ≤ 1000) {l : List Tok} (hl : OkT l) :
    RunP (leftT P ops l) (fun e l' => (.ret (hiA e), [pO l' d])) Qp (G ext 76 [.ptr 0 0, .fn F [.ptr 0 0] [], .d (.sl (ops.map fun x => [.str x]))] [pO l d]) := by
  unfold leftT
  have hex := hF l hl
  cases hp : P l with
  | error dg =>
    obtain ⟨h, q1, l9, k9, rfl⟩ := hex.er' hp
    refine ⟨_, ?_, l9, k9, rfl⟩
    rw [G_body hx.clear rfl Try.func76 rfl Try.results76 hv_76 rfl]
    simp (maxSteps := 4000000) (disch := first | (intros; contradiction) | omega) only [go_sem, q1]
    done
  | ok r =>
    obtain ⟨e0, l0⟩ := r
    have q1 := hex.ok' hp
    unfold hiA at q1
    obtain ⟨k1, k2, k3⟩ := hG l hl e0 l0 hp
    simp only [PR.andThen]
    rw [G_body hx.clear rfl Try.func76 rfl Try.results76 hv_76 rfl]
    simp (maxSteps := 4000000) (disch := first | (intros; contradiction) | omega) only [go_sem, q1]
    generalize hL : loopA _ _ _ = L
    apply loop_upd hL (by simp (maxSteps := 4000000) (disch := first | (intros; contradiction) | omega) only [go_sem] <;> rfl) (α := Ex0 × List Tok × Nat) (fun s => OkT s.2.1 ∧ s.2.1.length ≤ s.2.2 ∧ hgtE s.1 ≤ 200 ∧ chainL P ops s.2.2 s.1 s.2.1 = chainL P ops l0.length e0 l0)
      (fun s => s.2.1.length) (fun s => [(8, .any)]) (fun s => [(0, pO s.2.1 d), (2, hO (some s.1))]) (e0, l0, l0.length) (by unfold hO; simp only [hiC]; simp (maxSteps := 4000000) (disch := first | (intros; contradiction) | omega) only [go_sem] <;> rfl) ⟨k1, Nat.le_refl _, k3, rfl⟩ ?_
    clear hL
    rintro ⟨e, l1, n⟩ ⟨i1, i2, i3, i4⟩ next ih
    simp only at i1 i2 i3 i4 ih ⊢
    rw [← i4] at ih ⊢
    have hi1 := any_l hx i1 d ops ho
    cases n with
    | zero => obtain ⟨t, r, rfl⟩ := i1.ne; simp at i2
    | succ n =>
      simp only [chainL] at ih ⊢
      cases hw : anyT l1 ops with
      | false =>
        rw [if_neg (by simp)]
        rw [hw] at hi1
        unfold hO
        simp only [RunP, hiA, hiC]
        simp (maxSteps := 4000000) (disch := first | (intros; contradiction) | omega) only [go_sem, hi1]
        done
      | true =>
        rw [hw, if_pos rfl] at ih
        rw [if_pos rfl]
        rw [hw] at hi1
        have hst := step_l hx i1 d (anyT_kind hw)
        unfold Tok.av at hst
        obtain ⟨j1, j2⟩ := i1.step (anyT_kind hw)
        have hex2 := hF l1.tail j1
        cases hp2 : P l1.tail with
        | error dg =>
          obtain ⟨h, q2, l9, k9, rfl⟩ := hex2.er' hp2
          refine ⟨_, ?_, l9, k9, rfl⟩
          unfold hO
          simp only [hiC]
          simp (maxSteps := 4000000) (disch := first | (intros; contradiction) | omega) only [go_sem, hi1, hst, q2]
          done
        | ok r =>
          obtain ⟨x, l2⟩ := r
          have q2 := hex2.ok' hp2
          unfold hiA at q2
          obtain ⟨m1, m2, m3⟩ := hG _ j1 x l2 hp2
          rw [hp2] at ih
          simp only [PR.andThen] at ih ⊢
          have hb := built_l hx 4 0 [] (hdT l1).text [e, x] (hdT l1).pos.1 (hdT l1).pos.2 (by simp) (fun y hy => by
            rcases List.mem_cons.1 hy with rfl | hy
            · exact i3
            · cases List.mem_singleton.1 hy; exact m3) l2
          simp only [List.map_cons, List.map_nil, hiR] at hb
          unfold posT at ih ⊢
          cases hbt : builtT (.mk 4 0 [] (hdT l1).text [e, x] ⟨(hdT l1).pos.1, (hdT l1).pos.2⟩) l2 with
          | error dg =>
            obtain ⟨g, q3, rfl⟩ := hb.er' hbt
            refine ⟨_, ?_, l2, d, rfl⟩
            unfold hO
            simp only [hiC]
            simp (maxSteps := 4000000) (disch := first | (intros; contradiction) | omega) only [go_sem, hi1, hst, q2, q3]
            done
          | ok r =>
            obtain ⟨y, l3⟩ := r
            have q3 := hb.ok' hbt
            rw [hbt] at ih
            obtain ⟨rfl, rfl, hh⟩ := builtT_ok hbt
            have hcx : 1 ≤ cntE x := by rw [cntE_eq]; omega
            unfold hiA at q3
            unfold hO at ih ⊢
            simp only [hiC] at ih ⊢
            simp (maxSteps := 4000000) (disch := first | (intros; contradiction) | omega) only [go_sem, hi1, hst, q2, q3]
            exact ih (.mk 4 0 [] (hdT l1).text [e, x] ⟨(hdT l1).pos.1, (hdT l1).pos.2⟩, l3, n) _ ⟨m1, by simp only; omega, hh, rfl⟩ (by simp only; omega) (by simp (maxSteps := 4000000) (disch := first | (intros; contradiction) | omega) only [go_sem] <;> rfl)
theorem term_l (hx : T0 ext) {m d : Nat} (hU : RunU ext m d) : RunF ext 77 [.ptr 0 0] d hiA (termK (unaryT m)) := by
  intro l hl
  have h := left_l hx (unaryT_ok m) hU opsM (by simp [opsM]) hl
  simp only [opsM, List.map_cons, List.map_nil] at h
  unfold termK opsM
  cases hp : leftT (unaryT m) [[42], [47], [37]] l with
  | error dg =>
    obtain ⟨g, q1, l9, k9, rfl⟩ := h.er' hp
    refine ⟨_, ?_, l9, k9, rfl⟩
    rw [G_body hx.clear rfl Try.func77 rfl Try.results77 hv_77 rfl]
    simp (maxSteps := 4000000) (disch := first | (intros; contradiction) | omega) only [go_sem, q1]
    done
  | ok r =>
    obtain ⟨e, l1⟩ := r
    have q1 := h.ok' hp
    simp only [RunP]
    unfold hiA at q1 ⊢
    rw [G_body hx.clear rfl Try.func77 rfl Try.results77 hv_77 rfl]
    simp (maxSteps := 4000000) (disch := first | (intros; contradiction) | omega) only [go_sem, q1]
    done
theorem sum_l (hx : T0 ext) {m d : Nat} (hU : RunU ext m d) : RunF ext 54 [.ptr 0 0] d hiA (sumK (unaryT m)) := by
  intro l hl
  have h := left_l hx (leftT_ok (unaryT_ok m) opsM) (term_l hx hU) opsA (by simp [opsA]) hl
  simp only [opsA, List.map_cons, List.map_nil] at h
  unfold sumK opsA
  cases hp : leftT (termK (unaryT m)) [[43], [45]] l with
  | error dg =>
    obtain ⟨g, q1, l9, k9, rfl⟩ := h.er' hp
    refine ⟨_, ?_, l9, k9, rfl⟩
    rw [G_body hx.clear rfl Try.func54 rfl Try.results54 hv_54 rfl]
    simp (maxSteps := 4000000) (disch := first | (intros; contradiction) | omega) only [go_sem, q1]
    done
  | ok r =>
    obtain ⟨e, l1⟩ := r
    have q1 := h.ok' hp
    simp only [RunP]
    unfold hiA at q1 ⊢
    rw [G_body hx.clear rfl Try.func54 rfl Try.results54 hv_54 rfl]
    simp (maxSteps := 4000000) (disch := first | (intros; contradiction) | omega) only [go_sem, q1]
    done
set_option maxHeartbeats 2000000 in
theorem expr_l (hx : T0 ext) {m d : Nat} (hU : RunU ext m d) : RunE ext m d := by
  intro l hl
  have hS : GoodE (sumK (unaryT m)) := leftT_ok (leftT_ok (unaryT_ok m) opsM) opsA
  have hex := sum_l hx hU l hl
  unfold exprT exprK
  cases hp : sumK (unaryT m) l with
  | error dg =>
    obtain ⟨h, q1, l9, k9, rfl⟩ := hex.er' hp
    refine ⟨_, ?_, l9, k9, rfl⟩
    rw [G_body hx.clear rfl Try.func31 rfl Try.results31 hv_31 rfl]
    simp (maxSteps := 4000000) (disch := first | (intros; contradiction) | omega) only [go_sem, q1]
    done
  | ok r =>
    obtain ⟨e, l1⟩ := r
    have q1 := hex.ok' hp
    unfold hiA at q1
    obtain ⟨k1, k2, k3⟩ := hS l hl e l1 hp
    simp only [PR.andThen]
    have hi1 := any_l hx k1 d opsC (by simp [opsC])
    simp only [opsC, List.map_cons, List.map_nil] at hi1
    unfold opsC
    cases hw : anyT l1 [[61, 61], [33, 61], [60], [60, 61], [62], [62, 61]] with
    | false =>
      rw [hw] at hi1
      rw [if_neg (by simp)]
      simp only [RunP, hiA]
      rw [G_body hx.clear rfl Try.func31 rfl Try.results31 hv_31 rfl]
      simp (maxSteps := 4000000) (disch := first | (intros; contradiction) | omega) only [go_sem, q1, hi1]
      done
    | true =>
      rw [hw] at hi1
      rw [if_pos rfl]
      have hst := step_l hx k1 d (anyT_kind hw)
      unfold Tok.av at hst
      obtain ⟨j1, j2⟩ := k1.step (anyT_kind hw)
      have hex2 := sum_l hx hU l1.tail j1
      cases hp2 : sumK (unaryT m) l1.tail with
      | error dg =>
        obtain ⟨h, q2, l9, k9, rfl⟩ := hex2.er' hp2
        refine ⟨_, ?_, l9, k9, rfl⟩
        rw [G_body hx.clear rfl Try.func31 rfl Try.results31 hv_31 rfl]
        simp (maxSteps := 4000000) (disch := first | (intros; contradiction) | omega) only [go_sem, q1, hi1, hst, q2]
        done
      | ok r =>
        obtain ⟨x, l2⟩ := r
        have q2 := hex2.ok' hp2
        unfold hiA at q2
        obtain ⟨m1, m2, m3⟩ := hS _ j1 x l2 hp2
        simp only
        have hb := built_l hx 4 0 [] (hdT l1).text [e, x] (hdT l1).pos.1 (hdT l1).pos.2 (by simp) (fun y hy => by
          rcases List.mem_cons.1 hy with rfl | hy
          · exact k3
          · cases List.mem_singleton.1 hy; exact m3) l2
        simp only [List.map_cons, List.map_nil, hiR] at hb
        unfold posT
        cases hbt : builtT (.mk 4 0 [] (hdT l1).text [e, x] ⟨(hdT l1).pos.1, (hdT l1).pos.2⟩) l2 with
        | error dg =>
          obtain ⟨g, q3, rfl⟩ := hb.er' hbt
          refine ⟨_, ?_, l2, d, rfl⟩
          rw [G_body hx.clear rfl Try.func31 rfl Try.results31 hv_31 rfl]
          simp (maxSteps := 4000000) (disch := first | (intros; contradiction) | omega) only [go_sem, q1, hi1, hst, q2, q3]
          done
        | ok r =>
          obtain ⟨y, l3⟩ := r
          have q3 := hb.ok' hbt
          obtain ⟨rfl, rfl, hh⟩ := builtT_ok hbt
          simp only [RunP]
          unfold hiA at q3 ⊢
          rw [G_body hx.clear rfl Try.func31 rfl Try.results31 hv_31 rfl]
          simp (maxSteps := 4000000) (disch := first | (intros; contradiction) | omega) only [go_sem, q1, hi1, hst, q2, q3]
          done
/-- Any expression, at any depth. -/
theorem exprs_l (hx : T0 ext) : ∀ (m d : Nat), m + d = 200 → RunU ext m d ∧ RunE ext m d := by
  intro m
  induction m with
  | zero =>
    intro d hmd
    have h := unary_l hx hmd (fun k h => by cases h) (fun k h => by cases h)
    exact ⟨h, expr_l hx h⟩
  | succ m ih =>
    intro d hmd
    obtain ⟨i1, i2⟩ := ih (d + 1) (by omega)
    have h := unary_l hx hmd (fun k h => by cases h; exact i1) (fun k h => by cases h; exact i2)
    exact ⟨h, expr_l hx h⟩
theorem one_l (hx : T0 ext) {m d : Nat} (hE : RunE ext m d) {l : List Tok} (hl : OkT l) : RunP (exprT m l) (fun e l' => (.ret (.d (.sl [e.row])), [pO l' d])) Qp (G ext 91 [.ptr 0 0] [pO l d]) := by
  have hex := hE l hl
  cases hp : exprT m l with
  | error dg =>
    obtain ⟨h, q1, l9, k9, rfl⟩ := hex.er' hp
    refine ⟨_, ?_, l9, k9, rfl⟩
    rw [G_body hx.clear rfl Try.func91 rfl Try.results91 hv_91 rfl]
    simp (maxSteps := 4000000) (disch := first | (intros; contradiction) | omega) only [go_sem, q1]
    done
  | ok r =>
    obtain ⟨e, l1⟩ := r
    have q1 := hex.ok' hp
    unfold hiA at q1
    simp only [RunP]
    rw [Ex0.row_eq]
    rw [G_body hx.clear rfl Try.func91 rfl Try.results91 hv_91 rfl]
    simp (maxSteps := 4000000) (disch := first | (intros; contradiction) | omega) only [go_sem, q1]
    done
end Go.Proofs.Ytlcbnlfbbjmpbaa
