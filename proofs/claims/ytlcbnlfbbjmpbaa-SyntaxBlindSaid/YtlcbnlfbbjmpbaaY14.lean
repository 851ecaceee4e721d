/- Law 2: texts; what must come at any rate. Conditions: what is known of syntax.parse. -/
import Derived.Test.YtlcbnlfbbjmpbaaY13
import Derived.Test.YtlcbnlfbbjmpbaaT15
set_option linter.unusedSimpArgs false
set_option linter.unusedVariables false
namespace Go.Proofs.Ytlcbnlfbbjmpbaa
open Go Go.Ab
variable {ext : Sem'}
/-- A text's tokens are ended. -/
theorem toks_ended {s : Str} (hs : s.length ≤ 900000) (h : ∀ x, x ∈ eachL s → x.2 = Dg.zero) : OkT ((eachL s).map (·.1)) := by
  have e : eachL s = eachF (s.length + 1) s (1, 1) := by unfold eachL; rw [if_neg (by omega)]
  rw [e] at h
  have h1 := toksF_of _ _ _ h
  obtain ⟨xs, hxs, hgood, hlen, hn⟩ := toksF_good _ _ _ (by omega) h1
  rw [← e] at hxs
  generalize (eachL s).map (·.1) = ts at hxs
  have key : ∀ (ts : List Tok) (xs : List T3), ts.map strip = xs ++ [(5, [], 0)] → (∀ x, x ∈ xs → x.1 ≠ 5) → ∃ a t, ts = a ++ [t] ∧ t.kind = 5 ∧ ∀ x, x ∈ a → x.kind ≠ 5 := by
    intro ts
    induction ts with
    | nil => intro xs h _; cases xs <;> cases h
    | cons t ts ih =>
      intro xs h hg
      cases xs with
      | nil =>
        simp only [List.map_cons, List.nil_append, List.cons.injEq, List.map_eq_nil_iff] at h
        obtain ⟨h1, rfl⟩ := h
        exact ⟨[], t, rfl, congrArg (·.1) h1, fun x hx => by cases hx⟩
      | cons x xs =>
        simp only [List.map_cons, List.cons_append, List.cons.injEq] at h
        obtain ⟨a, u, rfl, h2, h3⟩ := ih xs h.2 (fun y hy => hg y (by simp [hy]))
        refine ⟨t :: a, u, rfl, h2, fun y hy => ?_⟩
        rcases List.mem_cons.1 hy with rfl | hy
        · have := hg x (by simp)
          rw [← h.1] at this
          exact this
        · exact h3 y hy
  refine ⟨key ts xs hxs fun x hx => (hgood x hx).1, ?_⟩
  have := congrArg List.length hxs
  simp only [List.length_map, List.length_append, List.length_cons, List.length_nil] at this
  omega
/-- A text's program, or what is wrong. -/
def textT (s : Str) : Pr0 × Dg := if (scanR (eachL s)).2.what ≠ 0 then (⟨[], []⟩, (scanR (eachL s)).2) else parseT (scanR (eachL s)).1
theorem ptext_e (hx : T5 ext) (s : Str) (hs : s.length ≤ 900000) : G ext 7 [.d (.str s)] [] = some (.ret (.tuple [(textT s).1.av, (textT s).2.av]), []) := by
  have hr := scan_e hx.tx s
  unfold textT
  rcases eachL_shape s with hg | ⟨gs, d, he, hd, hg⟩
  · have hok := toks_ended hs hg
    rw [scanR_good hg] at hr ⊢
    generalize (eachL s).map (·.1) = ts at hr hok
    rw [if_neg (by simp [Dg.zero])]
    have hp := pparse_e hx hok
    simp only
    unfold Pr0.av Dg.av Dg.zero rowsT at *
    rw [G_body hx.clear rfl Try.func7 rfl Try.results7 hv_7 rfl]
    simp (maxSteps := 4000000) (disch := first | (intros; contradiction) | omega) only [go_sem, hr, hp]
    done
  · rw [he, scanR_bad hg hd] at hr ⊢
    rw [if_pos hd]
    simp only
    unfold Pr0.av Dg.av rowsT at *
    simp only [List.map_nil]
    rw [G_body hx.clear rfl Try.func7 rfl Try.results7 hv_7 rfl]
    simp (maxSteps := 4000000) (disch := first | (intros; contradiction) | omega) only [go_sem, hr, hd]
    done
/-- An expression alone. -/
def eO (e : Ex0) : List AV := [.d (.int .i64 e.kind), .d (.int .i64 e.n), .d (.str e.name), .d (.str e.op), .d (.sl (e.kids.map Ex0.row)), .d (.int .i64 e.pos.line), .d (.int .i64 e.pos.col)]
def eZ : List AObj := [.cells [.d (.int .i64 0), .d (.int .i64 0), .d (.str []), .d (.str []), .grow 1 0 [], .d (.int .i64 0), .d (.int .i64 0)], .grow 0 7]
theorem capX : capsFit Try.prog 53 [AV.ptr 2 0].length = true := by kernel_rfl
set_option maxHeartbeats 8000000 in
theorem parseX_e (hx : T0 ext) {l : List Tok} (hl : OkT l) {e : Ex0} {l2 : List Tok} (h : exprT 200 l = .ok (e, l2)) (h5 : (hdT l2).kind = 5) : parF ext 29 [.d (.sl (l.map Tok.row)), .fn 30 [] [.ptr 0 0]] eZ = some (.ret Dg.zero.av, [.cells (eO e), .grow 0 7]) := by
  have hr := recF_of (P := Try.prog) (f := 53) Try.func53 rfl rfl rfl rfl rfl (by kernel_rfl) (by kernel_rfl) rfl (congrArg Array.toList Try.results53)
  have hix := idxEnd_e hx hl
  have hll : (l.map Tok.row).length = l.length := List.length_map _
  have hlf := hl.few
  have hl1 : ¬ (l.length : Int) - 1 < 0 := by obtain ⟨t, r, rfl⟩ := hl.ne; simp only [List.length_cons]; omega
  have hw : IntKind.i64.wrap ((l.length : Int) - 1) = (l.length : Int) - 1 := by rw [wrap64 (by omega) (by omega)]
  obtain ⟨k1, _, _⟩ := exprT_ok 200 l hl e l2 h
  have q0 := ((exprs_l hx 200 0 rfl).2 l hl).ok' h
  clear h
  have hr0 := row0 k1
  have h5' := eq_true h5
  have q1 : G ext 30 [.ptr 0 0, .ptr 1 0] [pO l 0, .cells [.d (.int .i64 0), .d (.int .i64 0), .d (.str []), .d (.str []), .grow 2 0 [], .d (.int .i64 0), .d (.int .i64 0)], .grow 0 7] = some (.ret (.tuple []), [pO l2 0, .cells (eO e), .grow 0 7]) := by
    unfold hiA at q0
    unfold eO
    rw [G_body hx.clear rfl Try.func30 rfl Try.results30 hv_30 rfl]
    simp (maxSteps := 4000000) (disch := first | (intros; contradiction) | omega) only [go_sem, q0, hr0, h5']
    done
  unfold pO at q1
  simp only [Int.natCast_zero] at q1
  unfold parF eZ eO Dg.av Dg.zero
  unfold eO at q1
  rw [recEv_body Try.func29 rfl (congrArg Array.toList Try.results29) hv_29 (Nat.le_of_ble_eq_true rfl)]
  rw [recCd_pre rfl rfl]
  simp (maxSteps := 4000000) (disch := first | (intros; contradiction) | omega) only [go_sem, defPre_go]
  rw [recCd_pre rfl rfl]
  simp (maxSteps := 4000000) (disch := first | (intros; contradiction) | omega) only [go_sem, defPre_go, hix]
  rw [recCd_pre rfl rfl]
  simp (maxSteps := 4000000) (disch := first | (intros; contradiction) | omega) only [go_sem, defPre_go, hl1, hll, hw]
  rw [recCd_def rfl rfl rfl]
  simp (maxSteps := 4000000) (disch := first | (intros; contradiction) | omega) only [go_sem, recPost_run, List.dropLast_cons_cons, List.dropLast_singleton, q1, recX_ret]
  rw [recEnd_none capX hr]
  simp (maxSteps := 4000000) (disch := first | (intros; contradiction) | omega) only [go_sem]
  done
def srcX : Str := [120, 32, 45, 32, 49, 32, 45, 32, 121, 45, 62, 102]
def tokX : List Tok := [⟨1, [120], 0, (1, 1)⟩, ⟨4, [45], 0, (1, 3)⟩, ⟨3, [49], 1, (1, 5)⟩, ⟨4, [45], 0, (1, 7)⟩, ⟨1, [121], 0, (1, 9)⟩, ⟨4, [45, 62], 0, (1, 10)⟩, ⟨1, [102], 0, (1, 12)⟩, ⟨5, [], 0, (1, 13)⟩]
def exX : Ex0 := .mk 4 0 [] [45] [.mk 4 0 [] [45] [.mk 2 0 [120] [] [] ⟨1, 1⟩, .mk 1 1 [] [] [] ⟨1, 5⟩] ⟨1, 3⟩, .mk 3 0 [102] [] [.mk 2 0 [121] [] [] ⟨1, 9⟩] ⟨1, 10⟩] ⟨1, 7⟩
theorem tokX_e : refR (eachL srcX) = (tokX, Dg.zero) := by kernel_rfl
theorem exX_e : exprT 200 tokX = .ok (exX, [⟨5, [], 0, (1, 13)⟩]) := by kernel_rfl
theorem okX : OkT tokX := ⟨⟨tokX.take 7, ⟨5, [], 0, (1, 13)⟩, rfl, rfl, by decide⟩, by decide⟩
structure T6 (ext : Sem') : Prop extends T5 ext where
  pex : ext 29 [.d (.sl (tokX.map Tok.row)), .fn 30 [] [.ptr 0 0]] eZ = some (.ret Dg.zero.av, [.cells (eO exX), .grow 0 7])
theorem expX_e (hx : T6 ext) : G ext 12 [.d (.sl (tokX.map Tok.row))] [] = some (.ret (.tuple [.agg (eO exX), Dg.zero.av]), []) := by
  have q1 := G_ext hx.pex
  unfold eZ eO Dg.av Dg.zero at *
  generalize tokX.map Tok.row = R at *
  rw [G_body hx.clear rfl Try.func12 rfl Try.results12 hv_12 rfl]
  simp (maxSteps := 4000000) (disch := first | (intros; contradiction) | omega) only [go_sem, q1]
  done
def srcY : Str := [105, 110, 116, 32, 109, 97, 105, 110, 40, 41, 32, 123, 32, 114, 101, 116, 117, 114, 110, 32, 55, 59, 32, 125]
def prY : Pr0 := ⟨[], [⟨[109, 97, 105, 110], [], ⟨false, []⟩, [.mk 8 ⟨false, []⟩ [] [.mk 1 7 [] [] [] ⟨1, 21⟩] [] [] ⟨1, 14⟩], ⟨1, 1⟩⟩]⟩
theorem prY_e : textT srcY = (prY, Dg.zero) := by kernel_rfl
theorem hgtX_e (hx : TX ext) : G ext 13 [.agg (eO exX)] [] = some (.ret (.d (.int .i64 3)), []) := G_run hx.clear 20 20 (by kernel_rfl)
set_option maxHeartbeats 4000000 in
theorem alive2_e (hx : T6 ext) : G ext 5 [] [] = some (.ret (.d (.bool true)), []) := by
  have h1 := rscan_e hx.tx srcX (by decide)
  rw [tokX_e] at h1
  have h2 := expX_e hx
  have h3 := ptext_e hx.toT5 srcY (by decide)
  rw [prY_e] at h3
  have h4 := hgtX_e hx.tx
  unfold rowsT at h1
  generalize tokX.map Tok.row = R at *
  simp only [srcX, srcY, prY, exX, eO, Ex0.kind, Ex0.n, Ex0.name, Ex0.op, Ex0.kids, Ex0.pos, Pr0.av, Dg.av, Dg.zero, List.map_cons, List.map_nil, Sr0.row, Fn0.row, St0.row_eq, Ex0.row_eq, St0.kind, St0.t, St0.name, St0.e, St0.body, St0.els, St0.pos] at h1 h2 h3 h4
  rw [G_body hx.clear rfl Try.func5 rfl Try.results5 hv_5 rfl]
  simp (maxSteps := 4000000) (disch := first | (intros; contradiction) | omega) only [go_sem, h1, h2, h3, h4]
  done
end Go.Proofs.Ytlcbnlfbbjmpbaa
