/- What an expression begins with. Conditions: none. -/
import Derived.Test.YtlcbnlfbbjmpbaaY4
set_option linter.unusedSimpArgs false
set_option linter.unusedVariables false
namespace Go.Proofs.Ytlcbnlfbbjmpbaa
open Go Go.Ab
variable {ext : Sem'}
theorem row0 {l : List Tok} (hl : OkT l) : (l.map Tok.row)[0]? = some [.int .i64 (hdT l).kind, .str (hdT l).text, .int .i64 (hdT l).num, .int .i64 (hdT l).pos.1, .int .i64 (hdT l).pos.2] := by
  obtain ⟨t, r, rfl⟩ := hl.ne
  rfl
/-- An expression without parts. -/
theorem leaf_l (hx : T0 ext) (k n : Int) (s o : Str) (p q : Int) : G ext 56 [.agg [.d (.int .i64 k), .d (.int .i64 n), .d (.str s), .d (.str o), .full [], .d (.int .i64 p), .d (.int .i64 q)], .full []] [] = some (.ret (hiA (.mk k n s o [] ⟨p, q⟩)), []) := by
  rw [G_body hx.clear rfl Try.func56 rfl Try.results56 hv_56 rfl]
  simp (maxSteps := 4000000) (disch := first | (intros; contradiction) | omega) only [go_sem]
  rw [loopA_eq]
  simp (maxSteps := 4000000) (disch := first | (intros; contradiction) | omega) only [go_sem]
  rfl
theorem builtT_leaf (k n : Int) (s o : Str) (p : Po) (l : List Tok) : builtT (.mk k n s o [] p) l = .ok (.mk k n s o [] p, l) := by
  unfold builtT
  rw [if_neg (by simp [hgtE, hgtEs])]
set_option maxHeartbeats 1000000 in
theorem unary1_l (hx : T0 ext) {U : List Tok → PR Ex0} {d : Nat} (hG : GoodE U) (hU : RunF ext 88 [.ptr 0 0] d hiA U) {l : List Tok} (hl : OkT l) (hk : (hdT l).kind ≠ 5) :
    RunP (PR.andThen (U l.tail) fun x l' => builtT (.mk 5 0 [] (hdT l).text [x] (posT l)) l') (fun e l' => (.ret (.tuple []), iH l' d (some e))) Qi (G ext 95 [.ptr 0 0, .ptr 2 0] (iH l d none)) := by
  have hst := step_l hx hl d hk
  unfold Tok.av at hst
  obtain ⟨hl1, hl2⟩ := hl.step hk
  have hex := hU l.tail hl1
  unfold iH
  cases he : U l.tail with
  | error dg =>
    obtain ⟨g, q1, l9, k9, rfl⟩ := hex.er' he
    refine ⟨_, ?_, l9, k9, none, rfl⟩
    unfold iH
    rw [G_body hx.clear rfl Try.func95 rfl Try.results95 hv_95 rfl]
    simp (maxSteps := 4000000) (disch := first | (intros; contradiction) | omega) only [go_sem, hst, q1]
    done
  | ok r =>
    obtain ⟨e, l2⟩ := r
    have q1 := hex.ok' he
    obtain ⟨g1, g2, g3⟩ := hG _ hl1 e l2 he
    simp only [PR.andThen]
    unfold hiA at q1
    have hb := built_l hx 5 0 [] (hdT l).text [e] (hdT l).pos.1 (hdT l).pos.2 (by simp) (fun x hx => by cases List.mem_singleton.1 hx; exact g3) l2
    simp only [List.map_cons, List.map_nil, hiR] at hb
    unfold posT
    cases hbt : builtT (.mk 5 0 [] (hdT l).text [e] ⟨(hdT l).pos.1, (hdT l).pos.2⟩) l2 with
    | error dg =>
      obtain ⟨g, q2, rfl⟩ := hb.er' hbt
      refine ⟨_, ?_, l2, d, none, rfl⟩
      unfold iH
      rw [G_body hx.clear rfl Try.func95 rfl Try.results95 hv_95 rfl]
      simp (maxSteps := 4000000) (disch := first | (intros; contradiction) | omega) only [go_sem, hst, q1, q2]
      done
    | ok r =>
      obtain ⟨x, l3⟩ := r
      have q2 := hb.ok' hbt
      obtain ⟨rfl, rfl, _⟩ := builtT_ok hbt
      simp only [RunP]
      unfold hiA at q2
      unfold hO
      simp only [hiC]
      rw [G_body hx.clear rfl Try.func95 rfl Try.results95 hv_95 rfl]
      simp (maxSteps := 4000000) (disch := first | (intros; contradiction) | omega) only [go_sem, hst, q1, q2]
      done
/-- What stands behind a sign. -/
def signT (U : Option (List Tok → PR Ex0)) (l : List Tok) : PR Ex0 := match U with
  | none => .error (deepD l)
  | some U => PR.andThen (U l.tail) fun x l' => builtT (.mk 5 0 [] (hdT l).text [x] (posT l)) l'
set_option maxHeartbeats 1000000 in
theorem level_unary (hx : T0 ext) {m d : Nat} (hmd : m + d = 200) (hU : ∀ k, m = k + 1 → RunU ext k (d + 1)) {l : List Tok} (hl : OkT l) (hk : (hdT l).kind ≠ 5) :
    RunP (signT (lowU m) l) (fun e l' => (.ret (.tuple []), [pO l' d, .cells [.ptr 0 0], hO (some e)])) Qil
      (G ext 83 [.ptr 0 0, .fn 95 [] [.ptr 1 0, .ptr 2 0]] [pO l d, .cells [.ptr 0 0], hO none]) := by
  have hat := at_l hx hl d
  have hf := pfail_e hx 4 (hdT l).pos.1 (hdT l).pos.2
  cases m with
  | zero =>
    have hd : d = 200 := by omega
    subst hd
    simp only [signT, lowU]
    refine ⟨_, ?_, l, 200, none, rfl⟩
    have hd : deepD l = ⟨2, 4, ((hdT l).pos.1, (hdT l).pos.2)⟩ := rfl
    rw [hd]
    unfold pO at hat ⊢
    rw [show ((200 : Nat) : Int) = 200 from rfl] at hat
    rw [G_body hx.clear rfl Try.func83 rfl Try.results83 hv_83 rfl]
    simp (maxSteps := 4000000) (disch := first | (intros; contradiction) | omega) only [go_sem, hat, hf]
    done
  | succ k =>
    have hd : ¬ (d : Int) = 200 := by omega
    have hc := unary1_l hx (unaryT_ok k) (hU k rfl) hl hk
    have hw := wrap_up (d := d) (by omega)
    have hw2 := wrap_dn (d := d) (by omega)
    simp only [lowU, signT]
    unfold iH at hc
    cases hp : (PR.andThen (unaryT k l.tail) fun x l' => builtT (.mk 5 0 [] (hdT l).text [x] (posT l)) l') with
    | error dg =>
      obtain ⟨h, q1, l9, k9, o9, rfl⟩ := hc.er' hp
      refine ⟨_, ?_, l9, k9, o9, rfl⟩
      unfold iH at q1
      unfold pO at q1 ⊢
      rw [G_body hx.clear rfl Try.func83 rfl Try.results83 hv_83 rfl]
      simp (maxSteps := 4000000) (disch := first | (intros; contradiction) | omega) only [go_sem, hd, hw, q1]
      done
    | ok r =>
      obtain ⟨e, l1⟩ := r
      have q1 := hc.ok' hp
      simp only [RunP]
      unfold pO at q1 ⊢
      rw [G_body hx.clear rfl Try.func83 rfl Try.results83 hv_83 rfl]
      simp (maxSteps := 4000000) (disch := first | (intros; contradiction) | omega) only [go_sem, hd, hw, hw2, q1]
      done
set_option maxHeartbeats 2000000 in
theorem prim_l (hx : T0 ext) {m d : Nat} (hmd : m + d = 200) (hE : ∀ k, m = k + 1 → RunE ext k (d + 1)) {l : List Tok} (hl : OkT l) :
    RunP (primT (lowE m) l) (fun e l' => (.ret (hiA e), [pO l' d])) Qp (G ext 96 [.ptr 0 0] [pO l d]) := by
  have hr0 := row0 hl
  unfold primT
  by_cases h3 : (hdT l).kind = 3
  · rw [if_pos h3, builtT_leaf]
    have h3' := eq_true h3
    have hst := step_l hx hl d (by omega)
    unfold Tok.av at hst
    have hb := leaf_l hx 1 (hdT l).num [] [] (hdT l).pos.1 (hdT l).pos.2
    simp only [RunP, hiA, posT] at hb ⊢
    rw [G_body hx.clear rfl Try.func96 rfl Try.results96 hv_96 rfl]
    simp (maxSteps := 4000000) (disch := first | (intros; contradiction) | omega) only [go_sem, hr0, h3', hst, hb]
    done
  rw [if_neg h3]
  by_cases h1 : (hdT l).kind = 1
  · rw [if_pos h1]
    have h1' := eq_true h1
    have hst := step_l hx hl d (by omega)
    unfold Tok.av at hst
    obtain ⟨hl1, hl2⟩ := hl.step (by omega)
    have hi := is_l hx hl1 d [40]
    cases hp : isT l.tail [40] with
    | true =>
      rw [if_pos rfl]
      rw [hp] at hi
      have ha := args_l hx hmd hE hl1 hp
      cases hav : argsT (lowE m) l.tail with
      | error dg =>
        obtain ⟨g, q1, l9, k9, rfl⟩ := ha.er' hav
        refine ⟨_, ?_, l9, k9, rfl⟩
        rw [G_body hx.clear rfl Try.func96 rfl Try.results96 hv_96 rfl]
        simp (maxSteps := 4000000) (disch := first | (intros; contradiction) | omega) only [go_sem, hr0, h3, h1', hst, hi, q1]
        done
      | ok r =>
        obtain ⟨ks, l2⟩ := r
        have q1 := ha.ok' hav
        obtain ⟨g1, g2, g3⟩ := argsT_ok (lowE_ok m) hl1 (isT_kind hp) hav
        simp only [PR.andThen]
        have hfew := hl.few
        have hcl := cntEs_len ks
        have hb := built_l hx 9 0 (hdT l).text [] ks (hdT l).pos.1 (hdT l).pos.2 (by omega) g3 l2
        unfold posT
        cases hbt : builtT (.mk 9 0 (hdT l).text [] ks ⟨(hdT l).pos.1, (hdT l).pos.2⟩) l2 with
        | error dg =>
          obtain ⟨g, q2, rfl⟩ := hb.er' hbt
          refine ⟨_, ?_, l2, d, rfl⟩
          rw [G_body hx.clear rfl Try.func96 rfl Try.results96 hv_96 rfl]
          simp (maxSteps := 4000000) (disch := first | (intros; contradiction) | omega) only [go_sem, hr0, h3, h1', hst, hi, q1, q2]
          done
        | ok r =>
          obtain ⟨x, l3⟩ := r
          have q2 := hb.ok' hbt
          obtain ⟨rfl, rfl, _⟩ := builtT_ok hbt
          simp only [RunP]
          unfold hiA at q2 ⊢
          rw [G_body hx.clear rfl Try.func96 rfl Try.results96 hv_96 rfl]
          simp (maxSteps := 4000000) (disch := first | (intros; contradiction) | omega) only [go_sem, hr0, h3, h1', hst, hi, q1, q2]
          done
    | false =>
      rw [if_neg (by simp), builtT_leaf]
      rw [hp] at hi
      have hb := leaf_l hx 2 0 (hdT l).text [] (hdT l).pos.1 (hdT l).pos.2
      simp only [RunP, hiA, posT] at hb ⊢
      rw [G_body hx.clear rfl Try.func96 rfl Try.results96 hv_96 rfl]
      simp (maxSteps := 4000000) (disch := first | (intros; contradiction) | omega) only [go_sem, hr0, h3, h1', hst, hi, hb]
      done
  rw [if_neg h1]
  have hm1 := maybe_l hx hl d [110, 117, 108, 108]
  cases hn1 : isT l [110, 117, 108, 108] with
  | true =>
    rw [hn1, if_pos rfl] at hm1
    rw [if_pos rfl, builtT_leaf]
    have hb := leaf_l hx 6 0 [] [] (hdT l).pos.1 (hdT l).pos.2
    simp only [RunP, hiA, posT] at hb ⊢
    rw [G_body hx.clear rfl Try.func96 rfl Try.results96 hv_96 rfl]
    simp (maxSteps := 4000000) (disch := first | (intros; contradiction) | omega) only [go_sem, hr0, h3, h1, hm1, hb]
    done
  | false =>
  rw [hn1, if_neg (by simp)] at hm1
  rw [if_neg (by simp)]
  have hm2 := maybe_l hx hl d [110, 101, 119]
  cases hn2 : isT l [110, 101, 119] with
  | true =>
    rw [hn2, if_pos rfl] at hm2
    rw [if_pos rfl]
    obtain ⟨hl1, hl2⟩ := hl.step (isT_kind hn2)
    have hnm := name_l hx hl1 d
    cases hnv : nameT l.tail with
    | error dg =>
      obtain ⟨g, q1, l9, k9, rfl⟩ := hnm.er' hnv
      refine ⟨_, ?_, l9, k9, rfl⟩
      rw [G_body hx.clear rfl Try.func96 rfl Try.results96 hv_96 rfl]
      simp (maxSteps := 4000000) (disch := first | (intros; contradiction) | omega) only [go_sem, hr0, h3, h1, hm1, hm2, q1]
      done
    | ok r =>
      obtain ⟨t, l2⟩ := r
      have q1 := hnm.ok' hnv
      unfold Tok.av at q1
      simp only [PR.andThen]
      rw [builtT_leaf]
      have hb := leaf_l hx 7 0 t.text [] (hdT l).pos.1 (hdT l).pos.2
      simp only [RunP, hiA, posT] at hb ⊢
      rw [G_body hx.clear rfl Try.func96 rfl Try.results96 hv_96 rfl]
      simp (maxSteps := 4000000) (disch := first | (intros; contradiction) | omega) only [go_sem, hr0, h3, h1, hm1, hm2, q1, hb]
      done
  | false =>
  rw [hn2, if_neg (by simp)] at hm2
  rw [if_neg (by simp)]
  have hm3 := maybe_l hx hl d [103, 101, 116]
  cases hn3 : isT l [103, 101, 116] with
  | true =>
    rw [hn3, if_pos rfl] at hm3
    rw [if_pos rfl]
    obtain ⟨hl1, hl2⟩ := hl.step (isT_kind hn3)
    have he1 := eat_l hx hl1 d [40]
    cases hv1 : eatT [40] l.tail with
    | error dg =>
      obtain ⟨g, q1, l9, k9, rfl⟩ := he1.er' hv1
      refine ⟨_, ?_, l9, k9, rfl⟩
      rw [G_body hx.clear rfl Try.func96 rfl Try.results96 hv_96 rfl]
      simp (maxSteps := 4000000) (disch := first | (intros; contradiction) | omega) only [go_sem, hr0, h3, h1, hm1, hm2, hm3, q1]
      done
    | ok r =>
      obtain ⟨u, l2⟩ := r
      have q1 := he1.ok' hv1
      obtain ⟨j1, j2, _⟩ := eatT_ok hl1 hv1
      simp only [PR.andThen]
      have he2 := eat_l hx j1 d [41]
      cases hv2 : eatT [41] l2 with
      | error dg =>
        obtain ⟨g, q2, l9, k9, rfl⟩ := he2.er' hv2
        refine ⟨_, ?_, l9, k9, rfl⟩
        rw [G_body hx.clear rfl Try.func96 rfl Try.results96 hv_96 rfl]
        simp (maxSteps := 4000000) (disch := first | (intros; contradiction) | omega) only [go_sem, hr0, h3, h1, hm1, hm2, hm3, q1, q2]
        done
      | ok r =>
        obtain ⟨u2, l3⟩ := r
        have q2 := he2.ok' hv2
        simp only
        rw [builtT_leaf]
        have hb := leaf_l hx 8 0 [] [] (hdT l).pos.1 (hdT l).pos.2
        simp only [RunP, hiA, posT] at hb ⊢
        rw [G_body hx.clear rfl Try.func96 rfl Try.results96 hv_96 rfl]
        simp (maxSteps := 4000000) (disch := first | (intros; contradiction) | omega) only [go_sem, hr0, h3, h1, hm1, hm2, hm3, q1, q2, hb]
        done
  | false =>
  rw [hn3, if_neg (by simp)] at hm3
  rw [if_neg (by simp)]
  have hi4 := is_l hx hl d [40]
  cases hn4 : isT l [40] with
  | true =>
    rw [hn4] at hi4
    rw [if_pos rfl]
    have hin := inner_l hx hmd hE hl (isT_kind hn4)
    cases hv : innerT (lowE m) l with
    | error dg =>
      obtain ⟨g, q1, l9, k9, rfl⟩ := hin.er' hv
      refine ⟨_, ?_, l9, k9, rfl⟩
      rw [G_body hx.clear rfl Try.func96 rfl Try.results96 hv_96 rfl]
      simp (maxSteps := 4000000) (disch := first | (intros; contradiction) | omega) only [go_sem, hr0, h3, h1, hm1, hm2, hm3, hi4, q1]
      done
    | ok r =>
      obtain ⟨e, l2⟩ := r
      have q1 := hin.ok' hv
      unfold hiA at q1
      simp only [RunP, hiA]
      rw [G_body hx.clear rfl Try.func96 rfl Try.results96 hv_96 rfl]
      simp (maxSteps := 4000000) (disch := first | (intros; contradiction) | omega) only [go_sem, hr0, h3, h1, hm1, hm2, hm3, hi4, q1]
      done
  | false =>
    rw [hn4] at hi4
    rw [if_neg (by simp)]
    have hf := pfail_e hx 3 (hdT l).pos.1 (hdT l).pos.2
    refine ⟨_, ?_, l, d, rfl⟩
    have hd : oddD l = ⟨2, 3, ((hdT l).pos.1, (hdT l).pos.2)⟩ := rfl
    rw [hd]
    rw [G_body hx.clear rfl Try.func96 rfl Try.results96 hv_96 rfl]
    simp (maxSteps := 4000000) (disch := first | (intros; contradiction) | omega) only [go_sem, hr0, h3, h1, hm1, hm2, hm3, hi4, hf]
    done
end Go.Proofs.Ytlcbnlfbbjmpbaa
