/- Types, fields, blocks, branches. Conditions: none. -/
import Derived.Test.YtlcbnlfbbjmpbaaY7
set_option linter.unusedSimpArgs false
set_option linter.unusedVariables false
namespace Go.Proofs.Ytlcbnlfbbjmpbaa
open Go Go.Ab
variable {ext : Sem'}
def ssV (ss : List St0) : AV := .d (.sl (ss.map St0.row))
def RunS (ext : Sem') (m d : Nat) : Prop := RunF ext 85 [.ptr 0 0] d St0.agg (stmtT m)
def RunB (ext : Sem') (m d : Nat) : Prop := RunF ext 72 [.ptr 0 0] d ssV (blockT m)
def Fl0.av (f : Fl0) : AV := .agg [.d (.str f.name), .d (.bool f.t.ptr), .d (.str f.t.to), .d (.int .i64 f.at_.line), .d (.int .i64 f.at_.col)]
/-- A block's statements, behind its first sign. -/
def bodyT (S : Option (List Tok → PR St0)) (l : List Tok) : PR (List St0) := match S with
  | none => .error (deepD l)
  | some S => stmtsL S l.length [] l.tail
theorem blockK_body (S : Option (List Tok → PR St0)) (l : List Tok) : blockK S l = if isT l [123] then bodyT S l else .error (oddD l) := by
  unfold blockK bodyT
  cases S <;> rfl
set_option maxHeartbeats 1000000 in
theorem level_block (hx : T0 ext) {m d : Nat} (hmd : m + d = 200) (hG : ∀ k, GoodN (stmtT k)) (hS : ∀ k, m = k + 1 → RunS ext k (d + 1)) {l : List Tok} (hl : OkT l) (hk : (hdT l).kind ≠ 5) :
    RunP (bodyT (lowS m) l) (fun ss l' => (.ret (.tuple []), [pO l' d, .cells [.ptr 0 0], .cells [.stk 3 ss.length ss.length], sO ss.length ss])) Qbl
      (G ext 83 [.ptr 0 0, .fn 84 [] [.ptr 1 0, .ptr 2 0]] [pO l d, .cells [.ptr 0 0], .cells [.stk 3 0 0], sO 0 []]) := by
  have hat := at_l hx hl d
  have hf := pfail_e hx 4 (hdT l).pos.1 (hdT l).pos.2
  cases m with
  | zero =>
    have hd : d = 200 := by omega
    subst hd
    simp only [bodyT, lowS]
    refine ⟨_, ?_, l, 200, [], rfl⟩
    have hd : deepD l = ⟨2, 4, ((hdT l).pos.1, (hdT l).pos.2)⟩ := rfl
    rw [hd]
    unfold pO at hat ⊢
    rw [show ((200 : Nat) : Int) = 200 from rfl] at hat
    rw [G_body hx.clear rfl Try.func83 rfl Try.results83 hv_83 rfl]
    simp (maxSteps := 4000000) (disch := first | (intros; contradiction) | omega) only [go_sem, hat, hf, List.length_nil]
    done
  | succ k =>
    have hd : ¬ (d : Int) = 200 := by omega
    have hc := block1_l hx (hG k) (hS k rfl) hl hk
    have hw := wrap_up (d := d) (by omega)
    have hw2 := wrap_dn (d := d) (by omega)
    simp only [bodyT, lowS]
    unfold bH at hc
    simp only [List.length_nil] at hc
    cases hp : stmtsL (stmtT k) l.length [] l.tail with
    | error dg =>
      obtain ⟨h, q1, l9, k9, ks9, rfl⟩ := hc.er' hp
      refine ⟨_, ?_, l9, k9, ks9, rfl⟩
      unfold bH at q1
      unfold pO at q1 ⊢
      rw [G_body hx.clear rfl Try.func83 rfl Try.results83 hv_83 rfl]
      simp (maxSteps := 4000000) (disch := first | (intros; contradiction) | omega) only [go_sem, hd, hw, q1]
      done
    | ok r =>
      obtain ⟨ks, l1⟩ := r
      have q1 := hc.ok' hp
      simp only [RunP]
      unfold pO at q1 ⊢
      rw [G_body hx.clear rfl Try.func83 rfl Try.results83 hv_83 rfl]
      simp (maxSteps := 4000000) (disch := first | (intros; contradiction) | omega) only [go_sem, hd, hw, hw2, q1]
      done
set_option maxHeartbeats 1000000 in
theorem block_l (hx : T0 ext) {m d : Nat} (hmd : m + d = 200) (hG : ∀ k, GoodN (stmtT k)) (hS : ∀ k, m = k + 1 → RunS ext k (d + 1)) : RunB ext m d := by
  intro l hl
  rw [blockT_eq, blockK_body]
  have hi := is_l hx hl d [123]
  cases hb : isT l [123] with
  | false =>
    rw [if_neg (by simp)]
    rw [hb] at hi
    have hat := at_l hx hl d
    have hf := pfail_e hx 3 (hdT l).pos.1 (hdT l).pos.2
    refine ⟨_, ?_, l, d, rfl⟩
    have hd : oddD l = ⟨2, 3, ((hdT l).pos.1, (hdT l).pos.2)⟩ := rfl
    rw [hd]
    rw [G_body hx.clear rfl Try.func72 rfl Try.results72 hv_72 rfl]
    simp (maxSteps := 4000000) (disch := first | (intros; contradiction) | omega) only [go_sem, hi, hat, hf]
    done
  | true =>
    rw [if_pos rfl]
    rw [hb] at hi
    have hc := level_block hx hmd hG hS hl (isT_kind hb)
    cases hp : bodyT (lowS m) l with
    | error dg =>
      obtain ⟨h, q1, l9, k9, ks9, rfl⟩ := hc.er' hp
      refine ⟨_, ?_, l9, k9, rfl⟩
      rw [G_body hx.clear rfl Try.func72 rfl Try.results72 hv_72 rfl]
      simp (maxSteps := 4000000) (disch := first | (intros; contradiction) | omega) only [go_sem, hi, sO_nil, q1]
      done
    | ok r =>
      obtain ⟨ss, l1⟩ := r
      have q1 := hc.ok' hp
      simp only [RunP, ssV]
      have hz := frz_sO ss.length ss
      rw [G_body hx.clear rfl Try.func72 rfl Try.results72 hv_72 rfl]
      simp (maxSteps := 4000000) (disch := first | (intros; contradiction) | omega) only [go_sem, hi, sO_nil, q1, hz]
      done
theorem typ_l (hx : T0 ext) (d : Nat) : RunF ext 71 [.ptr 0 0] d Tp.av typeT := by
  intro l hl
  unfold typeT
  have hm := maybe_l hx hl d [105, 110, 116]
  cases hn : isT l [105, 110, 116] with
  | true =>
    rw [hn, if_pos rfl] at hm
    rw [if_pos rfl]
    simp only [RunP, Tp.av]
    rw [G_body hx.clear rfl Try.func71 rfl Try.results71 hv_71 rfl]
    simp (maxSteps := 4000000) (disch := first | (intros; contradiction) | omega) only [go_sem, hm]
    done
  | false =>
    rw [hn, if_neg (by simp)] at hm
    rw [if_neg (by simp)]
    have hnm := name_l hx hl d
    cases hnv : nameT l with
    | error dg =>
      obtain ⟨g, q1, l9, k9, rfl⟩ := hnm.er' hnv
      refine ⟨_, ?_, l9, k9, rfl⟩
      rw [G_body hx.clear rfl Try.func71 rfl Try.results71 hv_71 rfl]
      simp (maxSteps := 4000000) (disch := first | (intros; contradiction) | omega) only [go_sem, hm, q1]
      done
    | ok r =>
      obtain ⟨t, l2⟩ := r
      have q1 := hnm.ok' hnv
      unfold Tok.av at q1
      obtain ⟨k1, k2, _⟩ := nameT_ok hl hnv
      simp only [PR.andThen]
      have hea := eat_l hx k1 d [42]
      cases hev : eatT [42] l2 with
      | error dg =>
        obtain ⟨g, q2, l9, k9, rfl⟩ := hea.er' hev
        refine ⟨_, ?_, l9, k9, rfl⟩
        rw [G_body hx.clear rfl Try.func71 rfl Try.results71 hv_71 rfl]
        simp (maxSteps := 4000000) (disch := first | (intros; contradiction) | omega) only [go_sem, hm, q1, q2]
        done
      | ok r =>
        obtain ⟨u, l3⟩ := r
        have q2 := hea.ok' hev
        simp only [RunP, Tp.av]
        rw [G_body hx.clear rfl Try.func71 rfl Try.results71 hv_71 rfl]
        simp (maxSteps := 4000000) (disch := first | (intros; contradiction) | omega) only [go_sem, hm, q1, q2]
        done
theorem typeT_ok : GoodN typeT := by
  intro l hl t l' h
  unfold typeT at h
  split at h
  · rename_i hi
    cases h
    obtain ⟨h1, h2⟩ := hl.step (isT_kind hi)
    exact ⟨h1, by omega⟩
  · obtain ⟨n, l1, h1, h2⟩ := PR.thenOk h
    obtain ⟨a1, a2, _⟩ := nameT_ok hl h1
    obtain ⟨u, l2, h3, h4⟩ := PR.thenOk h2
    obtain ⟨b1, b2, _⟩ := eatT_ok a1 h3
    cases h4
    exact ⟨b1, by omega⟩
theorem fieldT_ok : GoodN fieldT := by
  intro l hl t l' h
  unfold fieldT at h
  obtain ⟨t, l1, h1, h2⟩ := PR.thenOk h
  obtain ⟨a1, a2⟩ := typeT_ok l hl t l1 h1
  obtain ⟨n, l2, h3, h4⟩ := PR.thenOk h2
  obtain ⟨b1, b2, _⟩ := nameT_ok a1 h3
  cases h4
  exact ⟨b1, by omega⟩
theorem field_l (hx : T0 ext) (d : Nat) : RunF ext 70 [.ptr 0 0] d Fl0.av fieldT := by
  intro l hl
  unfold fieldT
  have hty := typ_l hx d l hl
  cases htv : typeT l with
  | error dg =>
    obtain ⟨g, q1, l9, k9, rfl⟩ := hty.er' htv
    refine ⟨_, ?_, l9, k9, rfl⟩
    rw [G_body hx.clear rfl Try.func70 rfl Try.results70 hv_70 rfl]
    simp (maxSteps := 4000000) (disch := first | (intros; contradiction) | omega) only [go_sem, q1]
    done
  | ok r =>
    obtain ⟨t, l1⟩ := r
    have q1 := hty.ok' htv
    unfold Tp.av at q1
    obtain ⟨a1, a2⟩ := typeT_ok l hl t l1 htv
    simp only [PR.andThen]
    have hnm := name_l hx a1 d
    cases hnv : nameT l1 with
    | error dg =>
      obtain ⟨g, q2, l9, k9, rfl⟩ := hnm.er' hnv
      refine ⟨_, ?_, l9, k9, rfl⟩
      rw [G_body hx.clear rfl Try.func70 rfl Try.results70 hv_70 rfl]
      simp (maxSteps := 4000000) (disch := first | (intros; contradiction) | omega) only [go_sem, q1, q2]
      done
    | ok r =>
      obtain ⟨n, l2⟩ := r
      have q2 := hnm.ok' hnv
      unfold Tok.av at q2
      simp only [RunP, Fl0.av]
      rw [G_body hx.clear rfl Try.func70 rfl Try.results70 hv_70 rfl]
      simp (maxSteps := 4000000) (disch := first | (intros; contradiction) | omega) only [go_sem, q1, q2]
      done
/-- A statement as it is begun. -/
def st0V (k : Int) (p : Po) : AV := .agg [.d (.int .i64 k), .d (.bool false), .d (.str []), .d (.str []), .full [], .full [], .full [], .d (.int .i64 p.line), .d (.int .i64 p.col)]
set_option maxHeartbeats 2000000 in
theorem branch_l (hx : T0 ext) {m d : Nat} (hE : RunE ext m d) (hB : RunB ext m d) (hGB : GoodN (blockT m)) (k : Int) (p : Po) {l : List Tok} (hl : OkT l) :
    RunP (branchT (exprT m) (blockT m) k p l) (fun s l' => (.ret s.agg, [pO l' d])) Qp (G ext 90 [.ptr 0 0, st0V k p] [pO l d]) := by
  unfold branchT st0V
  have h1 := eat_l hx hl d [40]
  cases v1 : eatT [40] l with
  | error dg =>
    obtain ⟨g, q1, l9, k9, rfl⟩ := h1.er' v1
    refine ⟨_, ?_, l9, k9, rfl⟩
    rw [G_body hx.clear rfl Try.func90 rfl Try.results90 hv_90 rfl]
    simp (maxSteps := 4000000) (disch := first | (intros; contradiction) | omega) only [go_sem, q1]
    done
  | ok r =>
    obtain ⟨u, l1⟩ := r
    have q1 := h1.ok' v1
    obtain ⟨a1, a2, _⟩ := eatT_ok hl v1
    simp only [PR.andThen]
    have h2 := one_l hx hE a1
    cases v2 : exprT m l1 with
    | error dg =>
      obtain ⟨g, q2, l9, k9, rfl⟩ := h2.er' v2
      refine ⟨_, ?_, l9, k9, rfl⟩
      rw [G_body hx.clear rfl Try.func90 rfl Try.results90 hv_90 rfl]
      simp (maxSteps := 4000000) (disch := first | (intros; contradiction) | omega) only [go_sem, q1, q2]
      done
    | ok r =>
      obtain ⟨e, l2⟩ := r
      have q2 := h2.ok' v2
      obtain ⟨b1, b2, _⟩ := exprT_ok m l1 a1 e l2 v2
      simp only
      have h3 := eat_l hx b1 d [41]
      cases v3 : eatT [41] l2 with
      | error dg =>
        obtain ⟨g, q3, l9, k9, rfl⟩ := h3.er' v3
        refine ⟨_, ?_, l9, k9, rfl⟩
        rw [G_body hx.clear rfl Try.func90 rfl Try.results90 hv_90 rfl]
        simp (maxSteps := 4000000) (disch := first | (intros; contradiction) | omega) only [go_sem, q1, q2, q3]
        done
      | ok r =>
        obtain ⟨u3, l3⟩ := r
        have q3 := h3.ok' v3
        obtain ⟨c1, c2, _⟩ := eatT_ok b1 v3
        simp only
        have h4 := hB l3 c1
        cases v4 : blockT m l3 with
        | error dg =>
          obtain ⟨g, q4, l9, k9, rfl⟩ := h4.er' v4
          refine ⟨_, ?_, l9, k9, rfl⟩
          rw [G_body hx.clear rfl Try.func90 rfl Try.results90 hv_90 rfl]
          simp (maxSteps := 4000000) (disch := first | (intros; contradiction) | omega) only [go_sem, q1, q2, q3, q4]
          done
        | ok r =>
          obtain ⟨b, l4⟩ := r
          have q4 := h4.ok' v4
          unfold ssV at q4
          obtain ⟨d1, d2⟩ := hGB l3 c1 b l4 v4
          simp only
          by_cases hk : k = 4
          · have hk' := eq_true hk
            have h5 := maybe_l hx d1 d [101, 108, 115, 101]
            cases v5 : isT l4 [101, 108, 115, 101] with
            | true =>
              rw [v5, if_pos rfl] at h5
              rw [if_pos ⟨hk, rfl⟩]
              obtain ⟨e1, e2⟩ := d1.step (isT_kind v5)
              have h6 := hB l4.tail e1
              cases v6 : blockT m l4.tail with
              | error dg =>
                obtain ⟨g, q6, l9, k9, rfl⟩ := h6.er' v6
                refine ⟨_, ?_, l9, k9, rfl⟩
                rw [G_body hx.clear rfl Try.func90 rfl Try.results90 hv_90 rfl]
                simp (maxSteps := 4000000) (disch := first | (intros; contradiction) | omega) only [go_sem, q1, q2, q3, q4, hk', h5, q6]
                done
              | ok r =>
                obtain ⟨c, l6⟩ := r
                have q6 := h6.ok' v6
                unfold ssV at q6
                simp only [RunP, St0.agg, St0.kind, St0.t, St0.name, St0.e, St0.body, St0.els, St0.pos, List.map_cons, List.map_nil]
                rw [G_body hx.clear rfl Try.func90 rfl Try.results90 hv_90 rfl]
                simp (maxSteps := 4000000) (disch := first | (intros; contradiction) | omega) only [go_sem, q1, q2, q3, q4, hk', h5, q6]
                done
            | false =>
              rw [v5, if_neg (by simp)] at h5
              rw [if_neg (by simp)]
              simp only [RunP, St0.agg, St0.kind, St0.t, St0.name, St0.e, St0.body, St0.els, St0.pos, List.map_cons, List.map_nil]
              rw [G_body hx.clear rfl Try.func90 rfl Try.results90 hv_90 rfl]
              simp (maxSteps := 4000000) (disch := first | (intros; contradiction) | omega) only [go_sem, q1, q2, q3, q4, hk', h5]
              done
          · rw [if_neg (fun h => hk h.1)]
            simp only [RunP, St0.agg, St0.kind, St0.t, St0.name, St0.e, St0.body, St0.els, St0.pos, List.map_cons, List.map_nil]
            rw [G_body hx.clear rfl Try.func90 rfl Try.results90 hv_90 rfl]
            simp (maxSteps := 4000000) (disch := first | (intros; contradiction) | omega) only [go_sem, q1, q2, q3, q4, hk]
            done
end Go.Proofs.Ytlcbnlfbbjmpbaa
