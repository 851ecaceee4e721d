/- Structs and functions. Conditions: none. -/
import Derived.Test.YtlcbnlfbbjmpbaaY10
set_option linter.unusedSimpArgs false
set_option linter.unusedVariables false
namespace Go.Proofs.Ytlcbnlfbbjmpbaa
open Go Go.Ab
variable {ext : Sem'}
def Sr0.av (s : Sr0) : AV := .agg [.d (.str s.name), .d (.sl (s.fields.map Fl0.row)), .d (.int .i64 s.at_.line), .d (.int .i64 s.at_.col)]
def Fn0.av (f : Fn0) : AV := .agg [.d (.str f.name), .d (.sl (f.params.map Fl0.row)), .d (.bool f.ret.ptr), .d (.str f.ret.to), .d (.sl (f.body.map St0.row)), .d (.int .i64 f.at_.line), .d (.int .i64 f.at_.col)]
theorem fieldsL_ok : ∀ (n : Nat) (out : List Fl0) (l : List Tok), OkT l → ∀ (fs : List Fl0) (l' : List Tok), fieldsL n out l = .ok (fs, l') → OkT l' ∧ l'.length < l.length := by
  intro n
  induction n with
  | zero => intro out l _ fs l' h; cases h
  | succ n ih =>
    intro out l hl fs l' h
    simp only [fieldsL] at h
    split at h
    · rename_i hi
      cases h
      obtain ⟨h1, h2⟩ := hl.step (isT_kind hi)
      exact ⟨h1, by omega⟩
    · obtain ⟨f, l1, h1, h⟩ := PR.thenOk h
      obtain ⟨a1, a2⟩ := fieldT_ok l hl f l1 h1
      obtain ⟨u, l2, h2, h⟩ := PR.thenOk h
      obtain ⟨b1, b2, _⟩ := eatT_ok a1 h2
      obtain ⟨c1, c2⟩ := ih _ l2 b1 fs l' h
      exact ⟨c1, by omega⟩
theorem paramsL_ok : ∀ (n : Nat) (out : List Fl0) (l : List Tok), OkT l → ∀ (fs : List Fl0) (l' : List Tok), paramsL n out l = .ok (fs, l') → OkT l' ∧ l'.length < l.length := by
  intro n
  induction n with
  | zero => intro out l _ fs l' h; cases h
  | succ n ih =>
    intro out l hl fs l' h
    simp only [paramsL] at h
    split at h
    · rename_i hi
      cases h
      obtain ⟨h1, h2⟩ := hl.step (isT_kind hi)
      exact ⟨h1, by omega⟩
    · obtain ⟨u, l1, h1, h⟩ := PR.thenOk h
      have hl1 : OkT l1 ∧ l1.length ≤ l.length := by
        split at h1
        · cases h1; exact ⟨hl, Nat.le_refl _⟩
        · obtain ⟨a1, a2, _⟩ := eatT_ok hl h1; exact ⟨a1, by omega⟩
      obtain ⟨f, l2, h2, h⟩ := PR.thenOk h
      obtain ⟨b1, b2⟩ := fieldT_ok l1 hl1.1 f l2 h2
      obtain ⟨c1, c2⟩ := ih _ l2 b1 fs l' h
      exact ⟨c1, by omega⟩
theorem structT_ok {l : List Tok} (hl : OkT l) (hk : (hdT l).kind ≠ 5) {s : Sr0} {l' : List Tok} (h : structT l = .ok (s, l')) : OkT l' ∧ l'.length < l.length := by
  unfold structT at h
  obtain ⟨h1, h2⟩ := hl.step hk
  obtain ⟨t, l1, h3, h⟩ := PR.thenOk h
  obtain ⟨a1, a2, _⟩ := nameT_ok h1 h3
  obtain ⟨u, l2, h4, h⟩ := PR.thenOk h
  obtain ⟨b1, b2, _⟩ := eatT_ok a1 h4
  obtain ⟨fs, l3, h5, h⟩ := PR.thenOk h
  obtain ⟨c1, c2⟩ := fieldsL_ok _ _ _ b1 fs l3 h5
  obtain ⟨u2, l4, h6, h⟩ := PR.thenOk h
  obtain ⟨d1, d2, _⟩ := eatT_ok c1 h6
  cases h
  exact ⟨d1, by omega⟩
theorem funcT_ok : GoodN funcT := by
  intro l hl f l' h
  unfold funcT at h
  obtain ⟨t, l1, h3, h⟩ := PR.thenOk h
  obtain ⟨a1, a2⟩ := typeT_ok l hl t l1 h3
  obtain ⟨n, l2, h4, h⟩ := PR.thenOk h
  obtain ⟨b1, b2, _⟩ := nameT_ok a1 h4
  obtain ⟨u, l3, h5, h⟩ := PR.thenOk h
  obtain ⟨c1, c2, _⟩ := eatT_ok b1 h5
  obtain ⟨ps, l4, h6, h⟩ := PR.thenOk h
  obtain ⟨d1, d2⟩ := paramsL_ok _ _ _ c1 ps l4 h6
  obtain ⟨b, l5, h7, h⟩ := PR.thenOk h
  obtain ⟨e1, e2⟩ := blockT_ok 200 l4 d1 b l5 h7
  cases h
  exact ⟨e1, by omega⟩
set_option maxHeartbeats 4000000 in
theorem struct_l (hx : T0 ext) (d : Nat) {l : List Tok} (hl : OkT l) (hk : (hdT l).kind ≠ 5) : RunP (structT l) (fun s l' => (.ret s.av, [pO l' d])) Qp (G ext 39 [.ptr 0 0] [pO l d]) := by
  have hat := at_l hx hl d
  have hst := step_l hx hl d hk
  unfold Tok.av at hst
  obtain ⟨hl1, hl2⟩ := hl.step hk
  unfold structT
  have h1 := name_l hx hl1 d
  cases v1 : nameT l.tail with
  | error dg =>
    obtain ⟨g, q1, l9, k9, rfl⟩ := h1.er' v1
    refine ⟨_, ?_, l9, k9, rfl⟩
    rw [G_body hx.clear rfl Try.func39 rfl Try.results39 hv_39 rfl]
    simp (maxSteps := 4000000) (disch := first | (intros; contradiction) | omega) only [go_sem, hat, hst, q1]
    done
  | ok r =>
    obtain ⟨t, l1⟩ := r
    have q1 := h1.ok' v1
    unfold Tok.av at q1
    obtain ⟨a1, a2, _⟩ := nameT_ok hl1 v1
    have h2 := eat_l hx a1 d [123]
    simp only [PR.andThen]
    cases v2 : eatT [123] l1 with
    | error dg =>
      obtain ⟨g, q2, l9, k9, rfl⟩ := h2.er' v2
      refine ⟨_, ?_, l9, k9, rfl⟩
      rw [G_body hx.clear rfl Try.func39 rfl Try.results39 hv_39 rfl]
      simp (maxSteps := 4000000) (disch := first | (intros; contradiction) | omega) only [go_sem, hat, hst, q1, q2]
      done
    | ok r =>
      obtain ⟨u, l2⟩ := r
      have q2 := h2.ok' v2
      obtain ⟨b1, b2, _⟩ := eatT_ok a1 v2
      simp only
      rw [G_body hx.clear rfl Try.func39 rfl Try.results39 hv_39 rfl]
      simp (maxSteps := 4000000) (disch := first | (intros; contradiction) | omega) only [go_sem, hat, hst, q1, q2]
      generalize hL : loopA _ _ _ = L
      apply loop_upd hL (by simp (maxSteps := 4000000) (disch := first | (intros; contradiction) | omega) only [go_sem] <;> rfl) (α := List Fl0 × List Tok × Nat) (fun s => OkT s.2.1 ∧ s.2.1.length ≤ s.2.2 ∧ s.1.length + s.2.1.length ≤ l.length ∧ fieldsL s.2.2 s.1 s.2.1 = fieldsL l2.length [] l2)
        (fun s => s.2.1.length) (fun s => []) (fun s => [(0, pO s.2.1 d), (2, .cells [.d (.str t.text), .grow 3 s.1.length (s.1.map Fl0.row), .d (.int .i64 (hdT l).pos.1), .d (.int .i64 (hdT l).pos.2)]), (3, .grow s.1.length 5)]) ([], l2, l2.length) (by simp (maxSteps := 4000000) (disch := first | (intros; contradiction) | omega) only [go_sem, List.map_nil, List.length_nil] <;> rfl) ⟨b1, Nat.le_refl _, by simp only [List.length_nil]; omega, rfl⟩ ?_
      clear hL
      rintro ⟨out, l3, n⟩ ⟨i1, i2, i4, i5⟩ next ih
      simp only at i1 i2 i4 i5 ih ⊢
      rw [← i5] at ih ⊢
      have hlf := hl.few
      cases n with
      | zero => obtain ⟨t, r, rfl⟩ := i1.ne; simp at i2
      | succ n =>
        have hm := maybe_l hx i1 d [125]
        simp only [fieldsL] at ih ⊢
        cases h : isT l3 [125] with
        | true =>
          rw [h, if_pos rfl] at hm
          rw [if_pos rfl]
          clear ih
          obtain ⟨c1, c2⟩ := i1.step (isT_kind h)
          have h3 := eat_l hx c1 d [59]
          simp only
          cases v3 : eatT [59] l3.tail with
          | error dg =>
            obtain ⟨g, q3, l9, k9, rfl⟩ := h3.er' v3
            refine ⟨_, ?_, l9, k9, rfl⟩
            simp (maxSteps := 4000000) (disch := first | (intros; contradiction) | omega) only [go_sem, hm, q3]
            done
          | ok r =>
            obtain ⟨u3, l4⟩ := r
            have q3 := h3.ok' v3
            simp only [RunP, Sr0.av, posT]
            simp (maxSteps := 4000000) (disch := first | (intros; contradiction) | omega) only [go_sem, hm, q3]
            done
        | false =>
          rw [h, if_neg (by simp)] at ih hm
          rw [if_neg (by simp)]
          have h3 := field_l hx d l3 i1
          cases v3 : fieldT l3 with
          | error dg =>
            obtain ⟨g, q3, l9, k9, rfl⟩ := h3.er' v3
            refine ⟨_, ?_, l9, k9, rfl⟩
            simp (maxSteps := 4000000) (disch := first | (intros; contradiction) | omega) only [go_sem, hm, q3]
            done
          | ok r =>
            obtain ⟨f, l4⟩ := r
            have q3 := h3.ok' v3
            unfold Fl0.av at q3
            obtain ⟨d1, d2⟩ := fieldT_ok l3 i1 f l4 v3
            rw [v3] at ih
            have h4 := eat_l hx d1 d [59]
            have hroom : room ((out.map Fl0.row).length + 1) 56 := by unfold room; simp; omega
            simp only [PR.andThen] at ih ⊢
            cases v4 : eatT [59] l4 with
            | error dg =>
              obtain ⟨g, q4, l9, k9, rfl⟩ := h4.er' v4
              simp only
              refine ⟨_, ?_, l9, k9, rfl⟩
              simp (maxSteps := 4000000) (disch := first | (intros; contradiction) | omega) only [go_sem, hm, q3, q4, hroom]
              done
            | ok r =>
              obtain ⟨u4, l5⟩ := r
              have q4 := h4.ok' v4
              obtain ⟨e1, e2, _⟩ := eatT_ok d1 v4
              rw [v4] at ih
              simp only at ih ⊢
              simp (maxSteps := 4000000) (disch := first | (intros; contradiction) | omega) only [go_sem, hm, q3, q4, hroom]
              exact ih (out ++ [f], l5, n) _ ⟨e1, by simp only; omega, by simp only [List.length_append, List.length_cons, List.length_nil]; omega, rfl⟩ (by simp only; omega) (by simp (maxSteps := 4000000) (disch := first | (intros; contradiction) | omega) only [go_sem, List.map_append, List.map_cons, List.map_nil, List.length_append, List.length_cons, List.length_nil, Fl0.row] <;> rfl)
set_option maxHeartbeats 4000000 in
theorem func_l (hx : T0 ext) {l : List Tok} (hl : OkT l) : RunP (funcT l) (fun s l' => (.ret s.av, [pO l' 0])) Qp (G ext 40 [.ptr 0 0] [pO l 0]) := by
  have hat := at_l hx hl 0
  unfold funcT
  have h0 := typ_l hx 0 l hl
  cases v0 : typeT l with
  | error dg =>
    obtain ⟨g, q0, l9, k9, rfl⟩ := h0.er' v0
    refine ⟨_, ?_, l9, k9, rfl⟩
    rw [G_body hx.clear rfl Try.func40 rfl Try.results40 hv_40 rfl]
    simp (maxSteps := 4000000) (disch := first | (intros; contradiction) | omega) only [go_sem, hat, q0]
    done
  | ok r =>
  obtain ⟨t, l0⟩ := r
  have q0 := h0.ok' v0
  unfold Tp.av at q0
  obtain ⟨hl1, hl2⟩ := typeT_ok l hl t l0 v0
  have h1 := name_l hx hl1 0
  simp only [PR.andThen]
  cases v1 : nameT l0 with
  | error dg =>
    obtain ⟨g, q1, l9, k9, rfl⟩ := h1.er' v1
    refine ⟨_, ?_, l9, k9, rfl⟩
    rw [G_body hx.clear rfl Try.func40 rfl Try.results40 hv_40 rfl]
    simp (maxSteps := 4000000) (disch := first | (intros; contradiction) | omega) only [go_sem, hat, q0, q1]
    done
  | ok r =>
    obtain ⟨nm, l1⟩ := r
    have q1 := h1.ok' v1
    unfold Tok.av at q1
    obtain ⟨a1, a2, _⟩ := nameT_ok hl1 v1
    have h2 := eat_l hx a1 0 [40]
    simp only
    cases v2 : eatT [40] l1 with
    | error dg =>
      obtain ⟨g, q2, l9, k9, rfl⟩ := h2.er' v2
      refine ⟨_, ?_, l9, k9, rfl⟩
      rw [G_body hx.clear rfl Try.func40 rfl Try.results40 hv_40 rfl]
      simp (maxSteps := 4000000) (disch := first | (intros; contradiction) | omega) only [go_sem, hat, q0, q1, q2]
      done
    | ok r =>
      obtain ⟨u, l2⟩ := r
      have q2 := h2.ok' v2
      obtain ⟨b1, b2, _⟩ := eatT_ok a1 v2
      simp only
      rw [G_body hx.clear rfl Try.func40 rfl Try.results40 hv_40 rfl]
      simp (maxSteps := 4000000) (disch := first | (intros; contradiction) | omega) only [go_sem, hat, q0, q1, q2]
      generalize hL : loopA _ _ _ = L
      apply loop_upd hL (by simp (maxSteps := 4000000) (disch := first | (intros; contradiction) | omega) only [go_sem] <;> rfl) (α := List Fl0 × List Tok × Nat) (fun s => OkT s.2.1 ∧ s.2.1.length ≤ s.2.2 ∧ s.1.length + s.2.1.length ≤ l.length ∧ paramsL s.2.2 s.1 s.2.1 = paramsL l2.length [] l2)
        (fun s => s.2.1.length) (fun s => []) (fun s => [(0, pO s.2.1 0), (2, .cells [.d (.str nm.text), .grow 3 s.1.length (s.1.map Fl0.row), .d (.bool t.ptr), .d (.str t.to), .full [], .d (.int .i64 (hdT l).pos.1), .d (.int .i64 (hdT l).pos.2)]), (3, .grow s.1.length 5)]) ([], l2, l2.length) (by simp (maxSteps := 4000000) (disch := first | (intros; contradiction) | omega) only [go_sem, List.map_nil, List.length_nil] <;> rfl) ⟨b1, Nat.le_refl _, by simp only [List.length_nil]; omega, rfl⟩ ?_
      clear hL
      rintro ⟨out, l3, n⟩ ⟨i1, i2, i4, i5⟩ next ih
      simp only at i1 i2 i4 i5 ih ⊢
      rw [← i5] at ih ⊢
      have hlf := hl.few
      cases n with
      | zero => obtain ⟨t, r, rfl⟩ := i1.ne; simp at i2
      | succ n =>
        have hm := maybe_l hx i1 0 [41]
        simp only [paramsL] at ih ⊢
        cases h : isT l3 [41] with
        | true =>
          rw [h, if_pos rfl] at hm
          rw [if_pos rfl]
          clear ih
          obtain ⟨c1, c2⟩ := i1.step (isT_kind h)
          have h3 := (stmts_l hx 200 0 rfl).2 l3.tail c1
          simp only
          cases v3 : blockT 200 l3.tail with
          | error dg =>
            obtain ⟨g, q3, l9, k9, rfl⟩ := h3.er' v3
            refine ⟨_, ?_, l9, k9, rfl⟩
            simp (maxSteps := 4000000) (disch := first | (intros; contradiction) | omega) only [go_sem, hm, q3]
            done
          | ok r =>
            obtain ⟨b, l4⟩ := r
            have q3 := h3.ok' v3
            unfold ssV at q3
            simp only [RunP, Fn0.av, posT]
            simp (maxSteps := 4000000) (disch := first | (intros; contradiction) | omega) only [go_sem, hm, q3]
            done
        | false =>
          rw [h, if_neg (by simp)] at ih hm
          rw [if_neg (by simp)]
          have hroom : room ((out.map Fl0.row).length + 1) 56 := by unfold room; simp; omega
          by_cases ho : out = []
          · subst ho
            simp only [List.isEmpty_nil, if_true, PR.andThen] at ih ⊢
            have hroom1 : room 1 56 := by unfold room; omega
            have h3 := field_l hx 0 l3 i1
            cases v3 : fieldT l3 with
            | error dg =>
              obtain ⟨g, q3, l9, k9, rfl⟩ := h3.er' v3
              simp only
              refine ⟨_, ?_, l9, k9, rfl⟩
              simp (maxSteps := 4000000) (disch := first | (intros; contradiction) | omega) only [go_sem, hm, q3, List.map_nil, List.length_nil]
              done
            | ok r =>
              obtain ⟨f, l4⟩ := r
              have q3 := h3.ok' v3
              unfold Fl0.av at q3
              obtain ⟨d1, d2⟩ := fieldT_ok l3 i1 f l4 v3
              rw [v3] at ih
              simp only at ih ⊢
              simp (maxSteps := 4000000) (disch := first | (intros; contradiction) | omega) only [go_sem, hm, q3, hroom1, List.map_nil, List.length_nil]
              exact ih ([f], l4, n) _ ⟨d1, by simp only; omega, by simp only [List.length_cons, List.length_nil] at i4 ⊢; omega, rfl⟩ (by simp only; omega) (by simp (maxSteps := 4000000) (disch := first | (intros; contradiction) | omega) only [go_sem, List.map_cons, List.map_nil, List.length_cons, List.length_nil, Fl0.row] <;> rfl)
          · have hne : out.isEmpty = false := by cases out <;> simp at ho ⊢
            have hpos : (0 : Int) < ((out.map Fl0.row).length : Int) := by
              cases out with
              | nil => exact absurd rfl ho
              | cons x xs => simp only [List.map_cons, List.length_cons]; omega
            rw [hne] at ih ⊢
            simp only [Bool.false_eq_true, if_false, PR.andThen] at ih ⊢
            have h2 := eat_l hx i1 0 [44]
            cases v2 : eatT [44] l3 with
            | error dg =>
              obtain ⟨g, q4, l9, k9, rfl⟩ := h2.er' v2
              simp only
              refine ⟨_, ?_, l9, k9, rfl⟩
              simp (maxSteps := 4000000) (disch := first | (intros; contradiction) | omega) only [go_sem, hm, q4, hpos]
              done
            | ok r =>
              obtain ⟨u4, l4⟩ := r
              have q4 := h2.ok' v2
              obtain ⟨e1, e2, _⟩ := eatT_ok i1 v2
              rw [v2] at ih
              simp only at ih ⊢
              have h3 := field_l hx 0 l4 e1
              cases v3 : fieldT l4 with
              | error dg =>
                obtain ⟨g, q3, l9, k9, rfl⟩ := h3.er' v3
                simp only
                refine ⟨_, ?_, l9, k9, rfl⟩
                simp (maxSteps := 4000000) (disch := first | (intros; contradiction) | omega) only [go_sem, hm, q4, q3, hpos]
                done
              | ok r =>
                obtain ⟨f, l5⟩ := r
                have q3 := h3.ok' v3
                unfold Fl0.av at q3
                obtain ⟨d1, d2⟩ := fieldT_ok l4 e1 f l5 v3
                rw [v3] at ih
                simp only at ih ⊢
                simp (maxSteps := 4000000) (disch := first | (intros; contradiction) | omega) only [go_sem, hm, q4, q3, hpos, hroom]
                exact ih (out ++ [f], l5, n) _ ⟨d1, by simp only; omega, by simp only [List.length_append, List.length_cons, List.length_nil]; omega, rfl⟩ (by simp only; omega) (by simp (maxSteps := 4000000) (disch := first | (intros; contradiction) | omega) only [go_sem, List.map_append, List.map_cons, List.map_nil, List.length_append, List.length_cons, List.length_nil, Fl0.row] <;> rfl)
end Go.Proofs.Ytlcbnlfbbjmpbaa
