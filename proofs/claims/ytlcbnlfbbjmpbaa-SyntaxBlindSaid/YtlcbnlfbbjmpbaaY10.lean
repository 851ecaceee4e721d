/- Statements: the parser gives what the plain one gives. Conditions: none. -/
import Derived.Test.YtlcbnlfbbjmpbaaY9
set_option linter.unusedSimpArgs false
set_option linter.unusedVariables false
namespace Go.Proofs.Ytlcbnlfbbjmpbaa
open Go Go.Ab
variable {ext : Sem'}
theorem targetL_ok : ∀ (n : Nat) (k : Int) (nm : Str) (e : Ex0) (last : Po) (l : List Tok), OkT l → ∀ (x : Int × Str × Ex0) (l' : List Tok), targetL n k nm e last l = .ok (x, l') → OkT l' ∧ l'.length ≤ l.length := by
  intro n
  induction n with
  | zero => intro k nm e last l hl x l' h; cases h; exact ⟨hl, Nat.le_refl _⟩
  | succ n ih =>
    intro k nm e last l hl x l' h
    simp only [targetL] at h
    split at h
    · rename_i hi
      obtain ⟨a1, a2⟩ := hl.step (isT_kind hi)
      obtain ⟨t, l1, h1, h2⟩ := PR.thenOk h
      obtain ⟨b1, b2, _⟩ := nameT_ok a1 h1
      obtain ⟨e2, l2, h3, h4⟩ := PR.thenOk h2
      have hl2 : l2 = l1 := by
        split at h3
        · exact (builtT_ok h3).2.1
        · cases h3; rfl
      subst hl2
      obtain ⟨c1, c2⟩ := ih _ _ _ _ _ b1 x l' h4
      exact ⟨c1, by omega⟩
    · cases h; exact ⟨hl, Nat.le_refl _⟩
theorem targetT_ok {E : List Tok → PR Ex0} (hE : GoodE E) (first : Tok) (p : Po) : GoodN (targetT E first p) := by
  intro l hl s l' h
  unfold targetT at h
  obtain ⟨x, l1, h1, h2⟩ := PR.thenOk h
  obtain ⟨a1, a2⟩ := targetL_ok _ _ _ _ _ l hl x l1 h1
  obtain ⟨u, l2, h3, h4⟩ := PR.thenOk h2
  obtain ⟨b1, b2, _⟩ := eatT_ok a1 h3
  obtain ⟨e, l3, h5, h6⟩ := PR.thenOk h4
  obtain ⟨c1, c2, _⟩ := hE l2 b1 e l3 h5
  cases h6
  exact ⟨c1, by omega⟩
theorem branchT_ok {E : List Tok → PR Ex0} {B : List Tok → PR (List St0)} (hE : GoodE E) (hB : GoodN B) (k : Int) (p : Po) : GoodN (branchT E B k p) := by
  intro l hl s l' h
  unfold branchT at h
  obtain ⟨u, l1, h1, h⟩ := PR.thenOk h
  obtain ⟨a1, a2, _⟩ := eatT_ok hl h1
  obtain ⟨e, l2, h2, h⟩ := PR.thenOk h
  obtain ⟨b1, b2, _⟩ := hE l1 a1 e l2 h2
  obtain ⟨u3, l3, h3, h⟩ := PR.thenOk h
  obtain ⟨c1, c2, _⟩ := eatT_ok b1 h3
  obtain ⟨b, l4, h4, h⟩ := PR.thenOk h
  obtain ⟨d1, d2⟩ := hB l3 c1 b l4 h4
  split at h
  · rename_i hi
    obtain ⟨e1, e2⟩ := d1.step (isT_kind hi.2)
    obtain ⟨c, l5, h5, h⟩ := PR.thenOk h
    obtain ⟨f1, f2⟩ := hB _ e1 c l5 h5
    cases h
    exact ⟨f1, by omega⟩
  · cases h; exact ⟨d1, by omega⟩
theorem plainT_ok {E : List Tok → PR Ex0} {A : Option (List Tok → PR Ex0)} (hE : GoodE E) (hA : GoodO A) : GoodN (plainT E (argsT A)) := by
  intro l hl s l' h
  unfold plainT at h
  split at h
  · rename_i hi; cases h; obtain ⟨h1, h2⟩ := hl.step (isT_kind hi); exact ⟨h1, by omega⟩
  split at h
  · rename_i hi; cases h; obtain ⟨h1, h2⟩ := hl.step (isT_kind hi); exact ⟨h1, by omega⟩
  split at h
  · rename_i hi
    obtain ⟨h1, h2⟩ := hl.step (isT_kind hi)
    obtain ⟨e, l1, h3, h⟩ := PR.thenOk h
    obtain ⟨a1, a2, _⟩ := hE _ h1 e l1 h3
    cases h
    exact ⟨a1, by omega⟩
  split at h
  · rename_i hi
    obtain ⟨h1, h2⟩ := hl.step (isT_kind hi)
    obtain ⟨u, l1, h3, h⟩ := PR.thenOk h
    obtain ⟨a1, a2, _⟩ := eatT_ok h1 h3
    obtain ⟨t, l2, h4, h⟩ := PR.thenOk h
    obtain ⟨b1, b2, _⟩ := nameT_ok a1 h4
    obtain ⟨u2, l3, h5, h⟩ := PR.thenOk h
    obtain ⟨c1, c2, _⟩ := eatT_ok b1 h5
    cases h
    exact ⟨c1, by omega⟩
  split at h
  · rename_i hi
    obtain ⟨h1, h2⟩ := hl.step (isT_kind hi)
    obtain ⟨u, l1, h3, h⟩ := PR.thenOk h
    obtain ⟨a1, a2, _⟩ := eatT_ok h1 h3
    obtain ⟨e, l2, h4, h⟩ := PR.thenOk h
    obtain ⟨b1, b2, _⟩ := hE _ a1 e l2 h4
    obtain ⟨u2, l3, h5, h⟩ := PR.thenOk h
    obtain ⟨c1, c2, _⟩ := eatT_ok b1 h5
    cases h
    exact ⟨c1, by omega⟩
  split at h
  · obtain ⟨t, l1, h3, h⟩ := PR.thenOk h
    obtain ⟨a1, a2⟩ := typeT_ok l hl t l1 h3
    obtain ⟨n, l2, h4, h⟩ := PR.thenOk h
    obtain ⟨b1, b2, _⟩ := nameT_ok a1 h4
    obtain ⟨u2, l3, h5, h⟩ := PR.thenOk h
    obtain ⟨c1, c2, _⟩ := eatT_ok b1 h5
    obtain ⟨e, l4, h6, h⟩ := PR.thenOk h
    obtain ⟨d1, d2, _⟩ := hE _ c1 e l4 h6
    cases h
    exact ⟨d1, by omega⟩
  split at h
  · rename_i hk
    obtain ⟨h1, h2⟩ := hl.step (by omega)
    split at h
    · rename_i hp
      obtain ⟨ks, l1, h3, h⟩ := PR.thenOk h
      obtain ⟨a1, a2, _⟩ := argsT_ok hA h1 (isT_kind hp) h3
      obtain ⟨e, l2, h4, h5⟩ := PR.thenOk h
      obtain ⟨_, hl2, _⟩ := builtT_ok h4
      subst hl2
      cases h5
      exact ⟨a1, by omega⟩
    · obtain ⟨a1, a2⟩ := targetT_ok hE _ _ _ h1 s l' h
      exact ⟨a1, by omega⟩
  · cases h
theorem stmtK_ok {E : List Tok → PR Ex0} {A : Option (List Tok → PR Ex0)} {B : List Tok → PR (List St0)} (hE : GoodE E) (hA : GoodO A) (hB : GoodN B) : GoodN (stmtK E (argsT A) B) := by
  intro l hl s l' h
  unfold stmtK at h
  split at h
  · rename_i hi
    obtain ⟨h1, h2⟩ := hl.step (isT_kind hi)
    obtain ⟨a1, a2⟩ := branchT_ok hE hB _ _ _ h1 s l' h
    exact ⟨a1, by omega⟩
  split at h
  · rename_i hi
    obtain ⟨h1, h2⟩ := hl.step (isT_kind hi)
    obtain ⟨a1, a2⟩ := branchT_ok hE hB _ _ _ h1 s l' h
    exact ⟨a1, by omega⟩
  · obtain ⟨s1, l1, h1, h⟩ := PR.thenOk h
    obtain ⟨a1, a2⟩ := plainT_ok hE hA l hl s1 l1 h1
    obtain ⟨u, l2, h2, h⟩ := PR.thenOk h
    obtain ⟨b1, b2, _⟩ := eatT_ok a1 h2
    cases h
    exact ⟨b1, by omega⟩
theorem blockT_ok : ∀ m : Nat, GoodN (blockT m)
  | 0 => by
    intro l hl ss l' h
    obtain ⟨a1, a2⟩ := blockK_ok (S := none) (fun S h => by cases h) hl h
    exact ⟨a1, by omega⟩
  | m + 1 => by
    intro l hl ss l' h
    obtain ⟨a1, a2⟩ := blockK_ok (S := some (stmtK (exprT m) (argsT (lowE m)) (blockT m))) (fun S h => by cases h; exact stmtK_ok (exprT_ok m) (lowE_ok m) (blockT_ok m)) hl h
    exact ⟨a1, by omega⟩
theorem stmtT_ok (m : Nat) : GoodN (stmtT m) := stmtK_ok (exprT_ok m) (lowE_ok m) (blockT_ok m)
set_option maxHeartbeats 8000000 in
theorem stmt_l (hx : T0 ext) {m d : Nat} (hmd : m + d = 200) (hE : RunE ext m d) (hL : ∀ k, m = k + 1 → RunE ext k (d + 1)) (hB : RunB ext m d) : RunS ext m d := by
  intro l hl
  have hr0 := row0 hl
  have hat := at_l hx hl d
  unfold stmtT stmtK
  have m1 := maybe_l hx hl d [105, 102]
  cases c1 : isT l [105, 102] with
  | true =>
    rw [c1, if_pos rfl] at m1
    rw [if_pos rfl]
    obtain ⟨hl1, hl2⟩ := hl.step (isT_kind c1)
    have hb := branch_l hx hE hB (blockT_ok m) 4 (posT l) hl1
    unfold st0V posT at hb
    unfold posT
    cases vb : branchT (exprT m) (blockT m) 4 ⟨(hdT l).pos.1, (hdT l).pos.2⟩ l.tail with
    | error dg =>
      obtain ⟨g, q1, l9, k9, rfl⟩ := hb.er' vb
      refine ⟨_, ?_, l9, k9, rfl⟩
      rw [G_body hx.clear rfl Try.func85 rfl Try.results85 hv_85 rfl]
      simp (maxSteps := 4000000) (disch := first | (intros; contradiction) | omega) only [go_sem, hat, m1, q1]
      done
    | ok r =>
      obtain ⟨s, l1⟩ := r
      have q1 := hb.ok' vb
      unfold St0.agg at q1
      simp only [RunP, St0.agg]
      rw [G_body hx.clear rfl Try.func85 rfl Try.results85 hv_85 rfl]
      simp (maxSteps := 4000000) (disch := first | (intros; contradiction) | omega) only [go_sem, hat, m1, q1]
      done
  | false =>
  rw [c1, if_neg (by simp)] at m1
  rw [if_neg (by simp)]
  have m2 := maybe_l hx hl d [119, 104, 105, 108, 101]
  cases c2 : isT l [119, 104, 105, 108, 101] with
  | true =>
    rw [c2, if_pos rfl] at m2
    rw [if_pos rfl]
    obtain ⟨hl1, hl2⟩ := hl.step (isT_kind c2)
    have hb := branch_l hx hE hB (blockT_ok m) 5 (posT l) hl1
    unfold st0V posT at hb
    unfold posT
    cases vb : branchT (exprT m) (blockT m) 5 ⟨(hdT l).pos.1, (hdT l).pos.2⟩ l.tail with
    | error dg =>
      obtain ⟨g, q1, l9, k9, rfl⟩ := hb.er' vb
      refine ⟨_, ?_, l9, k9, rfl⟩
      rw [G_body hx.clear rfl Try.func85 rfl Try.results85 hv_85 rfl]
      simp (maxSteps := 4000000) (disch := first | (intros; contradiction) | omega) only [go_sem, hat, m1, m2, q1]
      done
    | ok r =>
      obtain ⟨s, l1⟩ := r
      have q1 := hb.ok' vb
      unfold St0.agg at q1
      simp only [RunP, St0.agg]
      rw [G_body hx.clear rfl Try.func85 rfl Try.results85 hv_85 rfl]
      simp (maxSteps := 4000000) (disch := first | (intros; contradiction) | omega) only [go_sem, hat, m1, m2, q1]
      done
  | false =>
  rw [c2, if_neg (by simp)] at m2
  rw [if_neg (by simp)]
  unfold plainT
  have m3 := maybe_l hx hl d [98, 114, 101, 97, 107]
  cases c3 : isT l [98, 114, 101, 97, 107] with
  | true =>
    rw [c3, if_pos rfl] at m3
    rw [if_pos rfl]
    obtain ⟨hl1, hl2⟩ := hl.step (isT_kind c3)
    simp only [PR.andThen]
    have hz := eat_l hx hl1 d [59]
    cases vz : eatT [59] l.tail with
    | error dg =>
      obtain ⟨g9, qz, l9, k9, rfl⟩ := hz.er' vz
      refine ⟨_, ?_, l9, k9, rfl⟩
      rw [G_body hx.clear rfl Try.func85 rfl Try.results85 hv_85 rfl]
      simp (maxSteps := 4000000) (disch := first | (intros; contradiction) | omega) only [go_sem, hat, m1, m2, m3, qz]
      done
    | ok r9 =>
      obtain ⟨u9, lz⟩ := r9
      have qz := hz.ok' vz
      simp only [RunP, St0.agg, St0.kind, St0.t, St0.name, St0.e, St0.body, St0.els, St0.pos, List.map_cons, List.map_nil, posT]
      rw [G_body hx.clear rfl Try.func85 rfl Try.results85 hv_85 rfl]
      simp (maxSteps := 4000000) (disch := first | (intros; contradiction) | omega) only [go_sem, hat, m1, m2, m3, qz]
      done
  | false =>
  rw [c3, if_neg (by simp)] at m3
  rw [if_neg (by simp)]
  have m4 := maybe_l hx hl d [99, 111, 110, 116, 105, 110, 117, 101]
  cases c4 : isT l [99, 111, 110, 116, 105, 110, 117, 101] with
  | true =>
    rw [c4, if_pos rfl] at m4
    rw [if_pos rfl]
    obtain ⟨hl1, hl2⟩ := hl.step (isT_kind c4)
    simp only [PR.andThen]
    have hz := eat_l hx hl1 d [59]
    cases vz : eatT [59] l.tail with
    | error dg =>
      obtain ⟨g9, qz, l9, k9, rfl⟩ := hz.er' vz
      refine ⟨_, ?_, l9, k9, rfl⟩
      rw [G_body hx.clear rfl Try.func85 rfl Try.results85 hv_85 rfl]
      simp (maxSteps := 4000000) (disch := first | (intros; contradiction) | omega) only [go_sem, hat, m1, m2, m3, m4, qz]
      done
    | ok r9 =>
      obtain ⟨u9, lz⟩ := r9
      have qz := hz.ok' vz
      simp only [RunP, St0.agg, St0.kind, St0.t, St0.name, St0.e, St0.body, St0.els, St0.pos, List.map_cons, List.map_nil, posT]
      rw [G_body hx.clear rfl Try.func85 rfl Try.results85 hv_85 rfl]
      simp (maxSteps := 4000000) (disch := first | (intros; contradiction) | omega) only [go_sem, hat, m1, m2, m3, m4, qz]
      done
  | false =>
  rw [c4, if_neg (by simp)] at m4
  rw [if_neg (by simp)]
  have m5 := maybe_l hx hl d [114, 101, 116, 117, 114, 110]
  cases c5 : isT l [114, 101, 116, 117, 114, 110] with
  | true =>
    rw [c5, if_pos rfl] at m5
    rw [if_pos rfl]
    obtain ⟨hl1, hl2⟩ := hl.step (isT_kind c5)
    have ho := one_l hx hE hl1
    cases vo : exprT m l.tail with
    | error dg =>
      obtain ⟨g, q1, l9, k9, rfl⟩ := ho.er' vo
      simp only [PR.andThen]
      refine ⟨_, ?_, l9, k9, rfl⟩
      rw [G_body hx.clear rfl Try.func85 rfl Try.results85 hv_85 rfl]
      simp (maxSteps := 4000000) (disch := first | (intros; contradiction) | omega) only [go_sem, hat, m1, m2, m3, m4, m5, q1]
      done
    | ok r =>
      obtain ⟨e, l1⟩ := r
      have q1 := ho.ok' vo
      obtain ⟨a1, a2, _⟩ := exprT_ok m _ hl1 e l1 vo
      simp only [PR.andThen]
      have hz := eat_l hx a1 d [59]
      cases vz : eatT [59] l1 with
      | error dg =>
        obtain ⟨g9, qz, l9, k9, rfl⟩ := hz.er' vz
        refine ⟨_, ?_, l9, k9, rfl⟩
        rw [G_body hx.clear rfl Try.func85 rfl Try.results85 hv_85 rfl]
        simp (maxSteps := 4000000) (disch := first | (intros; contradiction) | omega) only [go_sem, hat, m1, m2, m3, m4, m5, q1, qz]
        done
      | ok r9 =>
        obtain ⟨u9, lz⟩ := r9
        have qz := hz.ok' vz
        simp only [RunP, St0.agg, St0.kind, St0.t, St0.name, St0.e, St0.body, St0.els, St0.pos, List.map_cons, List.map_nil, posT]
        rw [G_body hx.clear rfl Try.func85 rfl Try.results85 hv_85 rfl]
        simp (maxSteps := 4000000) (disch := first | (intros; contradiction) | omega) only [go_sem, hat, m1, m2, m3, m4, m5, q1, qz]
        done
  | false =>
  rw [c5, if_neg (by simp)] at m5
  rw [if_neg (by simp)]
  have m6 := maybe_l hx hl d [102, 114, 101, 101]
  cases c6 : isT l [102, 114, 101, 101] with
  | true =>
    rw [c6, if_pos rfl] at m6
    rw [if_pos rfl]
    obtain ⟨hl1, hl2⟩ := hl.step (isT_kind c6)
    have h1 := eat_l hx hl1 d [40]
    cases v1 : eatT [40] l.tail with
    | error dg =>
      obtain ⟨g, q1, l9, k9, rfl⟩ := h1.er' v1
      simp only [PR.andThen]
      refine ⟨_, ?_, l9, k9, rfl⟩
      rw [G_body hx.clear rfl Try.func85 rfl Try.results85 hv_85 rfl]
      simp (maxSteps := 4000000) (disch := first | (intros; contradiction) | omega) only [go_sem, hat, m1, m2, m3, m4, m5, m6, q1]
      done
    | ok r =>
      obtain ⟨u1, l1⟩ := r
      have q1 := h1.ok' v1
      obtain ⟨a1, a2, _⟩ := eatT_ok hl1 v1
      have h2 := name_l hx a1 d
      cases v2 : nameT l1 with
      | error dg =>
        obtain ⟨g, q2, l9, k9, rfl⟩ := h2.er' v2
        simp only [PR.andThen, v2]
        refine ⟨_, ?_, l9, k9, rfl⟩
        rw [G_body hx.clear rfl Try.func85 rfl Try.results85 hv_85 rfl]
        simp (maxSteps := 4000000) (disch := first | (intros; contradiction) | omega) only [go_sem, hat, m1, m2, m3, m4, m5, m6, q1, q2]
        done
      | ok r =>
        obtain ⟨t, l2⟩ := r
        have q2 := h2.ok' v2
        unfold Tok.av at q2
        obtain ⟨b1, b2, _⟩ := nameT_ok a1 v2
        have h3 := eat_l hx b1 d [41]
        cases v3 : eatT [41] l2 with
        | error dg =>
          obtain ⟨g, q3, l9, k9, rfl⟩ := h3.er' v3
          simp only [PR.andThen, v2, v3]
          refine ⟨_, ?_, l9, k9, rfl⟩
          rw [G_body hx.clear rfl Try.func85 rfl Try.results85 hv_85 rfl]
          simp (maxSteps := 4000000) (disch := first | (intros; contradiction) | omega) only [go_sem, hat, m1, m2, m3, m4, m5, m6, q1, q2, q3]
          done
        | ok r =>
          obtain ⟨u3, l3⟩ := r
          have q3 := h3.ok' v3
          obtain ⟨d1, d2, _⟩ := eatT_ok b1 v3
          simp only [PR.andThen, v2, v3]
          have hz := eat_l hx d1 d [59]
          cases vz : eatT [59] l3 with
          | error dg =>
            obtain ⟨g9, qz, l9, k9, rfl⟩ := hz.er' vz
            refine ⟨_, ?_, l9, k9, rfl⟩
            rw [G_body hx.clear rfl Try.func85 rfl Try.results85 hv_85 rfl]
            simp (maxSteps := 4000000) (disch := first | (intros; contradiction) | omega) only [go_sem, hat, m1, m2, m3, m4, m5, m6, q1, q2, q3, qz]
            done
          | ok r9 =>
            obtain ⟨u9, lz⟩ := r9
            have qz := hz.ok' vz
            simp only [RunP, St0.agg, St0.kind, St0.t, St0.name, St0.e, St0.body, St0.els, St0.pos, List.map_cons, List.map_nil, posT]
            rw [G_body hx.clear rfl Try.func85 rfl Try.results85 hv_85 rfl]
            simp (maxSteps := 4000000) (disch := first | (intros; contradiction) | omega) only [go_sem, hat, m1, m2, m3, m4, m5, m6, q1, q2, q3, qz]
            done
  | false =>
  rw [c6, if_neg (by simp)] at m6
  rw [if_neg (by simp)]
  have m7 := maybe_l hx hl d [112, 117, 116]
  cases c7 : isT l [112, 117, 116] with
  | true =>
    rw [c7, if_pos rfl] at m7
    rw [if_pos rfl]
    obtain ⟨hl1, hl2⟩ := hl.step (isT_kind c7)
    have h1 := eat_l hx hl1 d [40]
    cases v1 : eatT [40] l.tail with
    | error dg =>
      obtain ⟨g, q1, l9, k9, rfl⟩ := h1.er' v1
      simp only [PR.andThen]
      refine ⟨_, ?_, l9, k9, rfl⟩
      rw [G_body hx.clear rfl Try.func85 rfl Try.results85 hv_85 rfl]
      simp (maxSteps := 4000000) (disch := first | (intros; contradiction) | omega) only [go_sem, hat, m1, m2, m3, m4, m5, m6, m7, q1]
      done
    | ok r =>
      obtain ⟨u1, l1⟩ := r
      have q1 := h1.ok' v1
      obtain ⟨a1, a2, _⟩ := eatT_ok hl1 v1
      have h2 := one_l hx hE a1
      cases v2 : exprT m l1 with
      | error dg =>
        obtain ⟨g, q2, l9, k9, rfl⟩ := h2.er' v2
        simp only [PR.andThen, v2]
        refine ⟨_, ?_, l9, k9, rfl⟩
        rw [G_body hx.clear rfl Try.func85 rfl Try.results85 hv_85 rfl]
        simp (maxSteps := 4000000) (disch := first | (intros; contradiction) | omega) only [go_sem, hat, m1, m2, m3, m4, m5, m6, m7, q1, q2]
        done
      | ok r =>
        obtain ⟨e, l2⟩ := r
        have q2 := h2.ok' v2
        obtain ⟨b1, b2, _⟩ := exprT_ok m _ a1 e l2 v2
        have h3 := eat_l hx b1 d [41]
        cases v3 : eatT [41] l2 with
        | error dg =>
          obtain ⟨g, q3, l9, k9, rfl⟩ := h3.er' v3
          simp only [PR.andThen, v2, v3]
          refine ⟨_, ?_, l9, k9, rfl⟩
          rw [G_body hx.clear rfl Try.func85 rfl Try.results85 hv_85 rfl]
          simp (maxSteps := 4000000) (disch := first | (intros; contradiction) | omega) only [go_sem, hat, m1, m2, m3, m4, m5, m6, m7, q1, q2, q3]
          done
        | ok r =>
          obtain ⟨u3, l3⟩ := r
          have q3 := h3.ok' v3
          obtain ⟨d1, d2, _⟩ := eatT_ok b1 v3
          simp only [PR.andThen, v2, v3]
          have hz := eat_l hx d1 d [59]
          cases vz : eatT [59] l3 with
          | error dg =>
            obtain ⟨g9, qz, l9, k9, rfl⟩ := hz.er' vz
            refine ⟨_, ?_, l9, k9, rfl⟩
            rw [G_body hx.clear rfl Try.func85 rfl Try.results85 hv_85 rfl]
            simp (maxSteps := 4000000) (disch := first | (intros; contradiction) | omega) only [go_sem, hat, m1, m2, m3, m4, m5, m6, m7, q1, q2, q3, qz]
            done
          | ok r9 =>
            obtain ⟨u9, lz⟩ := r9
            have qz := hz.ok' vz
            simp only [RunP, St0.agg, St0.kind, St0.t, St0.name, St0.e, St0.body, St0.els, St0.pos, List.map_cons, List.map_nil, posT]
            rw [G_body hx.clear rfl Try.func85 rfl Try.results85 hv_85 rfl]
            simp (maxSteps := 4000000) (disch := first | (intros; contradiction) | omega) only [go_sem, hat, m1, m2, m3, m4, m5, m6, m7, q1, q2, q3, qz]
            done
  | false =>
  rw [c7, if_neg (by simp)] at m7
  rw [if_neg (by simp)]
  have m8 := typed_l hx hl d
  cases c8 : typedT l with
  | true =>
    rw [c8] at m8
    rw [if_pos rfl]
    have h1 := typ_l hx d l hl
    cases v1 : typeT l with
    | error dg =>
      obtain ⟨g, q1, l9, k9, rfl⟩ := h1.er' v1
      simp only [PR.andThen]
      refine ⟨_, ?_, l9, k9, rfl⟩
      rw [G_body hx.clear rfl Try.func85 rfl Try.results85 hv_85 rfl]
      simp (maxSteps := 4000000) (disch := first | (intros; contradiction) | omega) only [go_sem, hat, m1, m2, m3, m4, m5, m6, m7, m8, q1]
      done
    | ok r =>
      obtain ⟨t, l1⟩ := r
      have q1 := h1.ok' v1
      unfold Tp.av at q1
      obtain ⟨a1, a2⟩ := typeT_ok l hl t l1 v1
      have h2 := name_l hx a1 d
      cases v2 : nameT l1 with
      | error dg =>
        obtain ⟨g, q2, l9, k9, rfl⟩ := h2.er' v2
        simp only [PR.andThen, v2]
        refine ⟨_, ?_, l9, k9, rfl⟩
        rw [G_body hx.clear rfl Try.func85 rfl Try.results85 hv_85 rfl]
        simp (maxSteps := 4000000) (disch := first | (intros; contradiction) | omega) only [go_sem, hat, m1, m2, m3, m4, m5, m6, m7, m8, q1, q2]
        done
      | ok r =>
        obtain ⟨n, l2⟩ := r
        have q2 := h2.ok' v2
        unfold Tok.av at q2
        obtain ⟨b1, b2, _⟩ := nameT_ok a1 v2
        have h3 := eat_l hx b1 d [61]
        cases v3 : eatT [61] l2 with
        | error dg =>
          obtain ⟨g, q3, l9, k9, rfl⟩ := h3.er' v3
          simp only [PR.andThen, v2, v3]
          refine ⟨_, ?_, l9, k9, rfl⟩
          rw [G_body hx.clear rfl Try.func85 rfl Try.results85 hv_85 rfl]
          simp (maxSteps := 4000000) (disch := first | (intros; contradiction) | omega) only [go_sem, hat, m1, m2, m3, m4, m5, m6, m7, m8, q1, q2, q3]
          done
        | ok r =>
          obtain ⟨u3, l3⟩ := r
          have q3 := h3.ok' v3
          obtain ⟨d1, d2, _⟩ := eatT_ok b1 v3
          have h4 := one_l hx hE d1
          cases v4 : exprT m l3 with
          | error dg =>
            obtain ⟨g, q4, l9, k9, rfl⟩ := h4.er' v4
            simp only [PR.andThen, v2, v3, v4]
            refine ⟨_, ?_, l9, k9, rfl⟩
            rw [G_body hx.clear rfl Try.func85 rfl Try.results85 hv_85 rfl]
            simp (maxSteps := 4000000) (disch := first | (intros; contradiction) | omega) only [go_sem, hat, m1, m2, m3, m4, m5, m6, m7, m8, q1, q2, q3, q4]
            done
          | ok r =>
            obtain ⟨e, l4⟩ := r
            have q4 := h4.ok' v4
            obtain ⟨e1, e2, _⟩ := exprT_ok m _ d1 e l4 v4
            simp only [PR.andThen, v2, v3, v4]
            have hz := eat_l hx e1 d [59]
            cases vz : eatT [59] l4 with
            | error dg =>
              obtain ⟨g9, qz, l9, k9, rfl⟩ := hz.er' vz
              refine ⟨_, ?_, l9, k9, rfl⟩
              rw [G_body hx.clear rfl Try.func85 rfl Try.results85 hv_85 rfl]
              simp (maxSteps := 4000000) (disch := first | (intros; contradiction) | omega) only [go_sem, hat, m1, m2, m3, m4, m5, m6, m7, m8, q1, q2, q3, q4, qz]
              done
            | ok r9 =>
              obtain ⟨u9, lz⟩ := r9
              have qz := hz.ok' vz
              simp only [RunP, St0.agg, St0.kind, St0.t, St0.name, St0.e, St0.body, St0.els, St0.pos, List.map_cons, List.map_nil, posT]
              rw [G_body hx.clear rfl Try.func85 rfl Try.results85 hv_85 rfl]
              simp (maxSteps := 4000000) (disch := first | (intros; contradiction) | omega) only [go_sem, hat, m1, m2, m3, m4, m5, m6, m7, m8, q1, q2, q3, q4, qz]
              done
  | false =>
  rw [c8] at m8
  rw [if_neg (by simp)]
  by_cases h1 : (hdT l).kind = 1
  · have h1' := eq_true h1
    rw [if_pos h1]
    obtain ⟨hl1, hl2⟩ := hl.step (by omega)
    have hst := step_l hx hl d (by omega)
    unfold Tok.av at hst
    have hi := is_l hx hl1 d [40]
    cases hp : isT l.tail [40] with
    | true =>
      rw [if_pos rfl]
      rw [hp] at hi
      have ha := args_l hx hmd hL hl1 hp
      cases hav : argsT (lowE m) l.tail with
      | error dg =>
        obtain ⟨g, q1, l9, k9, rfl⟩ := ha.er' hav
        simp only [PR.andThen]
        refine ⟨_, ?_, l9, k9, rfl⟩
        rw [G_body hx.clear rfl Try.func85 rfl Try.results85 hv_85 rfl]
        simp (maxSteps := 4000000) (disch := first | (intros; contradiction) | omega) only [go_sem, hat, m1, m2, m3, m4, m5, m6, m7, m8, hr0, h1', hst, hi, q1]
        done
      | ok r =>
        obtain ⟨ks, l2⟩ := r
        have q1 := ha.ok' hav
        obtain ⟨g1, g2, g3⟩ := argsT_ok (lowE_ok m) hl1 (isT_kind hp) hav
        have hfew := hl.few
        have hcl := cntEs_len ks
        have hb := built_l hx 9 0 (hdT l).text [] ks (hdT l).pos.1 (hdT l).pos.2 (by omega) g3 l2
        unfold posT
        simp only [PR.andThen]
        cases hbt : builtT (.mk 9 0 (hdT l).text [] ks ⟨(hdT l).pos.1, (hdT l).pos.2⟩) l2 with
        | error dg =>
          obtain ⟨g, q2, rfl⟩ := hb.er' hbt
          refine ⟨_, ?_, l2, d, rfl⟩
          rw [G_body hx.clear rfl Try.func85 rfl Try.results85 hv_85 rfl]
          simp (maxSteps := 4000000) (disch := first | (intros; contradiction) | omega) only [go_sem, hat, m1, m2, m3, m4, m5, m6, m7, m8, hr0, h1', hst, hi, q1, q2]
          done
        | ok r =>
          obtain ⟨x, l3⟩ := r
          have q2 := hb.ok' hbt
          obtain ⟨rfl, rfl, _⟩ := builtT_ok hbt
          unfold hiA at q2
          simp only [Ex0.row_eq]
          have hz := eat_l hx g1 d [59]
          cases vz : eatT [59] l3 with
          | error dg =>
            obtain ⟨g9, qz, l9, k9, rfl⟩ := hz.er' vz
            refine ⟨_, ?_, l9, k9, rfl⟩
            rw [G_body hx.clear rfl Try.func85 rfl Try.results85 hv_85 rfl]
            simp (maxSteps := 4000000) (disch := first | (intros; contradiction) | omega) only [go_sem, hat, m1, m2, m3, m4, m5, m6, m7, m8, hr0, h1', hst, hi, q1, q2, Ex0.row_eq, qz]
            done
          | ok r9 =>
            obtain ⟨u9, lz⟩ := r9
            have qz := hz.ok' vz
            simp only [RunP, St0.agg, St0.kind, St0.t, St0.name, St0.e, St0.body, St0.els, St0.pos, List.map_cons, List.map_nil, posT]
            rw [G_body hx.clear rfl Try.func85 rfl Try.results85 hv_85 rfl]
            simp (maxSteps := 4000000) (disch := first | (intros; contradiction) | omega) only [go_sem, hat, m1, m2, m3, m4, m5, m6, m7, m8, hr0, h1', hst, hi, q1, q2, Ex0.row_eq, qz]
            done
    | false =>
      rw [if_neg (by simp)]
      rw [hp] at hi
      have ht := target_l hx hE (hdT l) (posT l) hl1
      unfold st0V posT Tok.av at ht
      unfold posT
      cases vt : targetT (exprT m) (hdT l) ⟨(hdT l).pos.1, (hdT l).pos.2⟩ l.tail with
      | error dg =>
        obtain ⟨g, q1, l9, k9, rfl⟩ := ht.er' vt
        simp only [PR.andThen]
        refine ⟨_, ?_, l9, k9, rfl⟩
        rw [G_body hx.clear rfl Try.func85 rfl Try.results85 hv_85 rfl]
        simp (maxSteps := 4000000) (disch := first | (intros; contradiction) | omega) only [go_sem, hat, m1, m2, m3, m4, m5, m6, m7, m8, hr0, h1', hst, hi, q1]
        done
      | ok r =>
        obtain ⟨s, l2⟩ := r
        have q1 := ht.ok' vt
        unfold St0.agg at q1
        obtain ⟨a1, a2⟩ := targetT_ok (exprT_ok m) _ _ _ hl1 s l2 vt
        simp only [PR.andThen]
        have hz := eat_l hx a1 d [59]
        cases vz : eatT [59] l2 with
        | error dg =>
          obtain ⟨g9, qz, l9, k9, rfl⟩ := hz.er' vz
          refine ⟨_, ?_, l9, k9, rfl⟩
          rw [G_body hx.clear rfl Try.func85 rfl Try.results85 hv_85 rfl]
          simp (maxSteps := 4000000) (disch := first | (intros; contradiction) | omega) only [go_sem, hat, m1, m2, m3, m4, m5, m6, m7, m8, hr0, h1', hst, hi, q1, qz]
          done
        | ok r9 =>
          obtain ⟨u9, lz⟩ := r9
          have qz := hz.ok' vz
          simp only [RunP, St0.agg]
          rw [G_body hx.clear rfl Try.func85 rfl Try.results85 hv_85 rfl]
          simp (maxSteps := 4000000) (disch := first | (intros; contradiction) | omega) only [go_sem, hat, m1, m2, m3, m4, m5, m6, m7, m8, hr0, h1', hst, hi, q1, qz]
          done
  · rw [if_neg h1]
    have hf := pfail_e hx 3 (hdT l).pos.1 (hdT l).pos.2
    simp only [PR.andThen]
    refine ⟨_, ?_, l, d, rfl⟩
    have hd : oddD l = ⟨2, 3, ((hdT l).pos.1, (hdT l).pos.2)⟩ := rfl
    rw [hd]
    rw [G_body hx.clear rfl Try.func85 rfl Try.results85 hv_85 rfl]
    simp (maxSteps := 4000000) (disch := first | (intros; contradiction) | omega) only [go_sem, hat, m1, m2, m3, m4, m5, m6, m7, m8, hr0, h1, hf]
    done
/-- Any statement, any block. -/
theorem stmts_l (hx : T0 ext) : ∀ (m d : Nat), m + d = 200 → RunS ext m d ∧ RunB ext m d := by
  intro m
  induction m with
  | zero =>
    intro d hmd
    have hE := (exprs_l hx 0 d hmd).2
    have hB : RunB ext 0 d := block_l hx hmd stmtT_ok (fun k h => by cases h)
    exact ⟨stmt_l hx hmd hE (fun k h => by cases h) hB, hB⟩
  | succ m ih =>
    intro d hmd
    obtain ⟨i1, i2⟩ := ih (d + 1) (by omega)
    have hE := (exprs_l hx (m + 1) d hmd).2
    have hB : RunB ext (m + 1) d := block_l hx hmd stmtT_ok (fun k h => by cases h; exact i1)
    exact ⟨stmt_l hx hmd hE (fun k h => by cases h; exact (exprs_l hx m (d + 1) (by omega)).2) hB, hB⟩
end Go.Proofs.Ytlcbnlfbbjmpbaa
