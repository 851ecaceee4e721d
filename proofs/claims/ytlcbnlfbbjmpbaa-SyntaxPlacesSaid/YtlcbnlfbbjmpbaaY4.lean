/- A level more: what stands in brackets, and behind a sign. Conditions: none. -/
import Derived.Test.YtlcbnlfbbjmpbaaY3
set_option linter.unusedSimpArgs false
set_option linter.unusedVariables false
namespace Go.Proofs.Ytlcbnlfbbjmpbaa
open Go Go.Ab
variable {ext : Sem'}
/-- An expression's reader, so many levels may still come. -/
def RunE (ext : Sem') (m d : Nat) : Prop := RunF ext 31 [.ptr 0 0] d hiA (exprT m)
def RunU (ext : Sem') (m d : Nat) : Prop := RunF ext 88 [.ptr 0 0] d hiA (unaryT m)
def Qal (h : List AObj) : Prop := ∃ l k, ∃ ks : List Ex0, h = [pO l k, .cells [.ptr 0 0], .cells [.grow 3 ks.length (ks.map hiR)], .grow ks.length 8]
theorem wrap_up {d : Nat} (h : d < 200) : IntKind.i64.wrap ((d : Int) + 1) = ((d + 1 : Nat) : Int) := by rw [wrap64 (by omega) (by omega)]; omega
theorem wrap_dn {d : Nat} (h : d < 200) : IntKind.i64.wrap (((d + 1 : Nat) : Int) - 1) = (d : Int) := by rw [wrap64 (by omega) (by omega)]; omega
set_option maxHeartbeats 1000000 in
theorem level_args (hx : T0 ext) {m d : Nat} (hmd : m + d = 200) (hE : ∀ k, m = k + 1 → RunE ext k (d + 1)) {l : List Tok} (hl : OkT l) (hk : (hdT l).kind ≠ 5) :
    RunP (argsT (lowE m) l) (fun ks l' => (.ret (.tuple []), [pO l' d, .cells [.ptr 0 0], .cells [.grow 3 ks.length (ks.map hiR)], .grow ks.length 8])) Qal
      (G ext 83 [.ptr 0 0, .fn 98 [] [.ptr 1 0, .ptr 2 0]] [pO l d, .cells [.ptr 0 0], .cells [.grow 3 0 []], .grow 0 8]) := by
  have hat := at_l hx hl d
  have hf := pfail_e hx 4 (hdT l).pos.1 (hdT l).pos.2
  cases m with
  | zero =>
    have hd : d = 200 := by omega
    subst hd
    simp only [argsT, lowE]
    refine ⟨_, ?_, l, 200, [], rfl⟩
    have hd : deepD l = ⟨2, 4, ((hdT l).pos.1, (hdT l).pos.2)⟩ := rfl
    rw [hd]
    unfold pO at hat ⊢
    rw [show ((200 : Nat) : Int) = 200 from rfl] at hat
    rw [G_body hx.clear rfl Try.func83 rfl Try.results83 hv_83 rfl]
    simp (maxSteps := 4000000) (disch := first | (intros; contradiction) | omega) only [go_sem, hat, hf, List.map_nil, List.length_nil]
    done
  | succ k =>
    have hd : ¬ (d : Int) = 200 := by omega
    have hc := args1_l hx (exprT_ok k) (hE k rfl) hl hk
    have hw := wrap_up (d := d) (by omega)
    have hw2 := wrap_dn (d := d) (by omega)
    simp only [argsT, lowE]
    unfold aH at hc
    simp only [List.map_nil, List.length_nil] at hc
    cases hp : argsL (exprT k) l.length [] l.tail with
    | error dg =>
      obtain ⟨h, q1, l9, k9, ks9, rfl⟩ := hc.er' hp
      refine ⟨_, ?_, l9, k9, ks9, rfl⟩
      unfold aH at q1
      unfold pO at q1 ⊢
      rw [G_body hx.clear rfl Try.func83 rfl Try.results83 hv_83 rfl]
      simp (maxSteps := 4000000) (disch := first | (intros; contradiction) | omega) only [go_sem, hd, hw, q1]
      done
    | ok r =>
      obtain ⟨ks, l1⟩ := r
      have q1 := hc.ok' hp
      simp only [RunP]
      unfold pO at q1 ⊢
      rw [G_body hx.clear rfl Try.func83 rfl Try.results83 hv_83 rfl]
      simp (maxSteps := 4000000) (disch := first | (intros; contradiction) | omega) only [go_sem, hd, hw, hw2, q1]
      done
set_option maxHeartbeats 1000000 in
theorem args_l (hx : T0 ext) {m d : Nat} (hmd : m + d = 200) (hE : ∀ k, m = k + 1 → RunE ext k (d + 1)) {l : List Tok} (hl : OkT l) (hk : isT l [40] = true) :
    RunP (argsT (lowE m) l) (fun ks l' => (.ret (.d (.sl (ks.map hiR))), [pO l' d])) Qp (G ext 94 [.ptr 0 0] [pO l d]) := by
  have hi := is_l hx hl d [40]
  rw [hk] at hi
  have hc := level_args hx hmd hE hl (isT_kind hk)
  cases hp : argsT (lowE m) l with
  | error dg =>
    obtain ⟨h, q1, l9, k9, ks9, rfl⟩ := hc.er' hp
    refine ⟨_, ?_, l9, k9, rfl⟩
    rw [G_body hx.clear rfl Try.func94 rfl Try.results94 hv_94 rfl]
    simp (maxSteps := 4000000) (disch := first | (intros; contradiction) | omega) only [go_sem, hi, q1]
    done
  | ok r =>
    obtain ⟨ks, l1⟩ := r
    have q1 := hc.ok' hp
    simp only [RunP]
    rw [G_body hx.clear rfl Try.func94 rfl Try.results94 hv_94 rfl]
    simp (maxSteps := 4000000) (disch := first | (intros; contradiction) | omega) only [go_sem, hi, q1]
    done
/-- A place for an expression with its height: one, or none yet. -/
def hiC : Option Ex0 → List AV
  | some e => [.d (.int .i64 e.kind), .d (.int .i64 e.n), .d (.str e.name), .d (.str e.op), .d (.sl (e.kids.map Ex0.row)), .d (.int .i64 e.pos.line), .d (.int .i64 e.pos.col), .d (.int .i64 (hgtE e : Int))]
  | none => [.d (.int .i64 0), .d (.int .i64 0), .d (.str []), .d (.str []), .full [], .d (.int .i64 0), .d (.int .i64 0), .d (.int .i64 0)]
def hO (o : Option Ex0) : AObj := .cells (hiC o)
theorem hO_refs (o : Option Ex0) : refsO (hO o) = [] := by cases o <;> rfl
theorem hO_ren (f : Nat → Nat) (o : Option Ex0) : renO f (hO o) = hO o := by cases o <;> rfl
theorem hO_is (o : Option Ex0) : isObj (hO o) = true := rfl
theorem hO_cells (o : Option Ex0) : cellsOf (hO o) = some (hiC o) := rfl
attribute [go_sem] hO_refs hO_ren hO_is
def iH (l : List Tok) (d : Nat) (o : Option Ex0) : List AObj := [.cells [.ptr 1 0], pO l d, hO o]
def Qi (h : List AObj) : Prop := ∃ l k o, h = iH l k o
def Qil (h : List AObj) : Prop := ∃ l k o, h = [pO l k, .cells [.ptr 0 0], hO o]
set_option maxHeartbeats 1000000 in
theorem inner1_l (hx : T0 ext) {E : List Tok → PR Ex0} {d : Nat} (hG : GoodE E) (hE : RunF ext 31 [.ptr 0 0] d hiA E) {l : List Tok} (hl : OkT l) (hk : (hdT l).kind ≠ 5) :
    RunP (innerT (some E) l) (fun e l' => (.ret (.tuple []), iH l' d (some e))) Qi (G ext 100 [.ptr 0 0, .ptr 2 0] (iH l d none)) := by
  have hst := step_l hx hl d hk
  unfold Tok.av at hst
  obtain ⟨hl1, hl2⟩ := hl.step hk
  have hex := hE l.tail hl1
  simp only [innerT]
  unfold iH
  cases he : E l.tail with
  | error dg =>
    obtain ⟨g, q1, l9, k9, rfl⟩ := hex.er' he
    refine ⟨_, ?_, l9, k9, none, rfl⟩
    unfold iH
    rw [G_body hx.clear rfl Try.func100 rfl Try.results100 hv_100 rfl]
    simp (maxSteps := 4000000) (disch := first | (intros; contradiction) | omega) only [go_sem, hst, q1]
    done
  | ok r =>
    obtain ⟨e, l2⟩ := r
    have q1 := hex.ok' he
    obtain ⟨g1, g2, g3⟩ := hG _ hl1 e l2 he
    simp only [PR.andThen]
    have hea := eat_l hx g1 d [41]
    unfold hiA at q1
    cases hea1 : eatT [41] l2 with
    | error dg =>
      obtain ⟨g, q2, l9, k9, rfl⟩ := hea.er' hea1
      refine ⟨_, ?_, l9, k9, some e, rfl⟩
      unfold iH hO
      simp only [hiC]
      rw [G_body hx.clear rfl Try.func100 rfl Try.results100 hv_100 rfl]
      simp (maxSteps := 4000000) (disch := first | (intros; contradiction) | omega) only [go_sem, hst, q1, q2]
      done
    | ok r =>
      obtain ⟨u, l3⟩ := r
      have q2 := hea.ok' hea1
      simp only [RunP]
      unfold hO
      simp only [hiC]
      rw [G_body hx.clear rfl Try.func100 rfl Try.results100 hv_100 rfl]
      simp (maxSteps := 4000000) (disch := first | (intros; contradiction) | omega) only [go_sem, hst, q1, q2]
      done
set_option maxHeartbeats 1000000 in
theorem level_inner (hx : T0 ext) {m d : Nat} (hmd : m + d = 200) (hE : ∀ k, m = k + 1 → RunE ext k (d + 1)) {l : List Tok} (hl : OkT l) (hk : (hdT l).kind ≠ 5) :
    RunP (innerT (lowE m) l) (fun e l' => (.ret (.tuple []), [pO l' d, .cells [.ptr 0 0], hO (some e)])) Qil
      (G ext 83 [.ptr 0 0, .fn 100 [] [.ptr 1 0, .ptr 2 0]] [pO l d, .cells [.ptr 0 0], hO none]) := by
  have hat := at_l hx hl d
  have hf := pfail_e hx 4 (hdT l).pos.1 (hdT l).pos.2
  cases m with
  | zero =>
    have hd : d = 200 := by omega
    subst hd
    simp only [innerT, lowE]
    refine ⟨_, ?_, l, 200, none, rfl⟩
    have hd : deepD l = ⟨2, 4, ((hdT l).pos.1, (hdT l).pos.2)⟩ := rfl
    rw [hd]
    unfold pO at hat ⊢
    rw [show ((200 : Nat) : Int) = 200 from rfl] at hat
    rw [G_body hx.clear rfl Try.func83 rfl Try.results83 hv_83 rfl]
    simp (maxSteps := 4000000) (disch := first | (intros; contradiction) | omega) only [go_sem, hat, hf]
    done
  | succ k =>
    have hd : ¬ (d : Int) = 200 := by omega
    have hc := inner1_l hx (exprT_ok k) (hE k rfl) hl hk
    have hw := wrap_up (d := d) (by omega)
    have hw2 := wrap_dn (d := d) (by omega)
    simp only [lowE]
    unfold iH at hc
    cases hp : innerT (some (exprT k)) l with
    | error dg =>
      obtain ⟨h, q1, l9, k9, o9, rfl⟩ := hc.er' hp
      refine ⟨_, ?_, l9, k9, o9, rfl⟩
      unfold iH at q1
      unfold pO at q1 ⊢
      rw [G_body hx.clear rfl Try.func83 rfl Try.results83 hv_83 rfl]
      simp (maxSteps := 4000000) (disch := first | (intros; contradiction) | omega) only [go_sem, hd, hw, q1]
      done
    | ok r =>
      obtain ⟨e, l1⟩ := r
      have q1 := hc.ok' hp
      simp only [RunP]
      unfold pO at q1 ⊢
      rw [G_body hx.clear rfl Try.func83 rfl Try.results83 hv_83 rfl]
      simp (maxSteps := 4000000) (disch := first | (intros; contradiction) | omega) only [go_sem, hd, hw, hw2, q1]
      done
set_option maxHeartbeats 1000000 in
theorem inner_l (hx : T0 ext) {m d : Nat} (hmd : m + d = 200) (hE : ∀ k, m = k + 1 → RunE ext k (d + 1)) {l : List Tok} (hl : OkT l) (hk : (hdT l).kind ≠ 5) :
    RunP (innerT (lowE m) l) (fun e l' => (.ret (hiA e), [pO l' d])) Qp (G ext 99 [.ptr 0 0] [pO l d]) := by
  have hc := level_inner hx hmd hE hl hk
  unfold hO at hc
  simp only [hiC] at hc
  cases hp : innerT (lowE m) l with
  | error dg =>
    obtain ⟨h, q1, l9, k9, o9, rfl⟩ := hc.er' hp
    refine ⟨_, ?_, l9, k9, rfl⟩
    rw [G_body hx.clear rfl Try.func99 rfl Try.results99 hv_99 rfl]
    simp (maxSteps := 4000000) (disch := first | (intros; contradiction) | omega) only [go_sem, q1]
    done
  | ok r =>
    obtain ⟨e, l1⟩ := r
    have q1 := hc.ok' hp
    simp only [RunP, hiA]
    rw [G_body hx.clear rfl Try.func99 rfl Try.results99 hv_99 rfl]
    simp (maxSteps := 4000000) (disch := first | (intros; contradiction) | omega) only [go_sem, q1]
    done
end Go.Proofs.Ytlcbnlfbbjmpbaa
