/- syntax.parse, by the evaluator's reading of a function that recovers. Conditions: none. -/
import Derived.Test.YtlcbnlfbbjmpbaaY12
set_option linter.unusedSimpArgs false
set_option linter.unusedVariables false
namespace Go.Proofs.Ytlcbnlfbbjmpbaa
open Go Go.Ab
variable {ext : Sem'}
theorem recEnd_run {P : Program} {Γ : Sem'} {hd : Nat → Nat → Option (List Ht)} {hv : Nat → List Nat} {hf : Nat → Nat → List Nat} {rs : List ResultVar} {k : Nat} {st : St} {f : Nat} {caps : List AV} {r : Rc} {t : TypeId} {av : AV} (hc : capsFit P f caps.length = true) (hr : recF P f = some r) : recEnd P Γ hd hv hf rs k st (some (.iface t av)) (.fn f [] caps) = recPan P rs k st (finish P [] st.H.length (rcRun P Γ hd hv hf f r caps st.H (.iface t av))) := by
  simp only [recEnd]
  rw [if_pos hc, hr]
  rfl
theorem recPan_ret {P : Program} {rs : List ResultVar} {k : Nat} {st : St} {v : AV} {H' : List AObj} : recPan P rs k st (some (.ret v, H')) = finish P rs k (.ex .ret ⟨st.vs, [], H'⟩) := rfl
noncomputable def parF (ext : Sem') : Sem' := recEv Try.prog (G ext) hd hv hf
def gP (p : Pr0) : List AObj := [.cells [.grow 1 p.structs.length (p.structs.map Sr0.row), .grow 2 p.funcs.length (p.funcs.map Fn0.row)], .grow p.structs.length 4, .grow p.funcs.length 7]
theorem capP : capsFit Try.prog 53 [AV.ptr 3 0].length = true := by kernel_rfl
set_option maxHeartbeats 8000000 in
theorem parse_e (hx : T0 ext) {l : List Tok} (hl : OkT l) : match partsL l.length ⟨[], []⟩ l with
    | .ok (p, _) => parF ext 29 [.d (.sl (l.map Tok.row)), .fn 37 [] [.ptr 0 0]] (gP ⟨[], []⟩) = some (.ret Dg.zero.av, gP p)
    | .error d => ∃ p, parF ext 29 [.d (.sl (l.map Tok.row)), .fn 37 [] [.ptr 0 0]] (gP ⟨[], []⟩) = some (.ret d.av, gP p) := by
  have hr := recF_of (P := Try.prog) (f := 53) Try.func53 rfl rfl rfl rfl rfl (by kernel_rfl) (by kernel_rfl) rfl (congrArg Array.toList Try.results53)
  have hix := idxEnd_e hx hl
  have hll : (l.map Tok.row).length = l.length := List.length_map _
  have hlf := hl.few
  have hl1 : ¬ (l.length : Int) - 1 < 0 := by obtain ⟨t, r, rfl⟩ := hl.ne; simp only [List.length_cons]; omega
  have hw : IntKind.i64.wrap ((l.length : Int) - 1) = (l.length : Int) - 1 := by rw [wrap64 (by omega) (by omega)]
  have hp := parts_l hx hl
  unfold gH gO pO at hp
  simp only [List.map_nil, List.length_nil, Int.natCast_zero] at hp
  cases hv1 : partsL l.length ⟨[], []⟩ l with
  | ok r =>
    obtain ⟨p, l2⟩ := r
    have q1 := hp.ok' hv1
    simp only
    unfold parF gP Dg.av Dg.zero
    rw [recEv_body Try.func29 rfl (congrArg Array.toList Try.results29) hv_29 (Nat.le_of_ble_eq_true rfl)]
    rw [recCd_pre rfl rfl]
    simp (maxSteps := 4000000) (disch := first | (intros; contradiction) | omega) only [go_sem, defPre_go]
    rw [recCd_pre rfl rfl]
    simp (maxSteps := 4000000) (disch := first | (intros; contradiction) | omega) only [go_sem, defPre_go, hix]
    rw [recCd_pre rfl rfl]
    simp (maxSteps := 4000000) (disch := first | (intros; contradiction) | omega) only [go_sem, defPre_go, hl1, hll, hw]
    rw [recCd_def rfl rfl rfl]
    simp (maxSteps := 4000000) (disch := first | (intros; contradiction) | omega) only [go_sem, recPost_run, List.dropLast_cons_cons, List.dropLast_singleton, q1, recX_ret]
    rw [recEnd_none capP hr]
    simp (maxSteps := 4000000) (disch := first | (intros; contradiction) | omega) only [go_sem]
    done
  | error d =>
    obtain ⟨h, q1, l9, k9, p9, rfl⟩ := hp.er' hv1
    simp only
    refine ⟨p9, ?_⟩
    unfold gH gO pO at q1
    unfold parF gP Dg.av
    unfold dgV Dg.av at q1
    rw [recEv_body Try.func29 rfl (congrArg Array.toList Try.results29) hv_29 (Nat.le_of_ble_eq_true rfl)]
    rw [recCd_pre rfl rfl]
    simp (maxSteps := 4000000) (disch := first | (intros; contradiction) | omega) only [go_sem, defPre_go]
    rw [recCd_pre rfl rfl]
    simp (maxSteps := 4000000) (disch := first | (intros; contradiction) | omega) only [go_sem, defPre_go, hix]
    rw [recCd_pre rfl rfl]
    simp (maxSteps := 4000000) (disch := first | (intros; contradiction) | omega) only [go_sem, defPre_go, hl1, hll, hw]
    rw [recCd_def rfl rfl rfl]
    simp only [List.map_nil, List.length_nil]
    simp (maxSteps := 4000000) (disch := first | (intros; contradiction) | omega) only [go_sem, recPost_run, List.dropLast_cons_cons, List.dropLast_singleton, q1, recX_pan]
    rw [recEnd_run capP hr]
    unfold rcRun
    rw [hv_53]
    simp (maxSteps := 4000000) (disch := first | (intros; contradiction) | omega) only [go_sem, recPan_ret]
    done
/-- What is known of the parser's recovering. -/
structure T5 (ext : Sem') : Prop extends T0 ext where
  par : ∀ l, OkT l → match partsL l.length ⟨[], []⟩ l with
    | .ok (p, _) => ext 29 [.d (.sl (l.map Tok.row)), .fn 37 [] [.ptr 0 0]] (gP ⟨[], []⟩) = some (.ret Dg.zero.av, gP p)
    | .error d => ∃ p, ext 29 [.d (.sl (l.map Tok.row)), .fn 37 [] [.ptr 0 0]] (gP ⟨[], []⟩) = some (.ret d.av, gP p)
/-- A program, or what is wrong, of ended tokens. -/
def parseT (l : List Tok) : Pr0 × Dg := match partsL l.length ⟨[], []⟩ l with
  | .ok (p, _) => (p, Dg.zero)
  | .error d => (⟨[], []⟩, d)
set_option maxHeartbeats 2000000 in
theorem pparse_e (hx : T5 ext) {l : List Tok} (hl : OkT l) : G ext 15 [.d (.sl (l.map Tok.row))] [] = some (.ret (.tuple [(parseT l).1.av, (parseT l).2.av]), []) := by
  have hp := hx.par l hl
  unfold gP at hp
  unfold parseT
  cases hv1 : partsL l.length ⟨[], []⟩ l with
  | ok r =>
    obtain ⟨p, l2⟩ := r
    rw [hv1] at hp
    simp only [List.map_nil, List.length_nil] at hp ⊢
    have q1 := G_ext hp
    unfold Pr0.av Dg.av Dg.zero at *
    rw [G_body hx.clear rfl Try.func15 rfl Try.results15 hv_15 rfl]
    simp (maxSteps := 4000000) (disch := first | (intros; contradiction) | omega) only [go_sem, q1]
    done
  | error d =>
    rw [hv1] at hp
    simp only [List.map_nil, List.length_nil] at hp ⊢
    obtain ⟨p, hp⟩ := hp
    have q1 := G_ext hp
    have hd := (Bad.partsL _ _ _ d hv1).2
    unfold Pr0.av Dg.av at *
    rw [G_body hx.clear rfl Try.func15 rfl Try.results15 hv_15 rfl]
    simp (maxSteps := 4000000) (disch := first | (intros; contradiction) | omega) only [go_sem, q1, hd]
    done
end Go.Proofs.Ytlcbnlfbbjmpbaa
