/- cnf's builder: what its functions do, those that clone by themselves. Conditions: none. -/
import Derived.Test.YtdmambkajegldaaC9
set_option linter.unusedSimpArgs false
set_option linter.unusedVariables false
namespace Go.Proofs.Ytdmambkajegldaa
open Go Go.Ab
variable {ext : Sem'}
theorem G_body0 {f : Nat} {F : Func} {c : Code} {xs : List AV} {H : List AObj} {rs : List ResultVar} {V : List Nat} (he : ext f xs H = none) (h : Try.prog.funcs[f]? = some F) (hb : F.body = some c) (hr : F.results = ⟨rs⟩) (hV : hv f = V) (hl : Nat.ble xs.length F.ntmps = true) :
    G ext f xs H = finish Try.prog rs H.length (evC Try.prog (G ext) (Go.Proofs.Ytdmambkajegldaa.hd f) (hf f) 0 c (.go (Go.Ab.start xs V H))) :=
  callA_body he h hb hr hV (Nat.le_of_ble_eq_true hl)
/-- What is known where a clone is data. -/
structure TE (ext : Sem') : Prop extends T0 ext where
  cloneg : ∀ l : List Int, l.length ≤ 1000 → ext 29 [.d (.sl (l.map rowI))] [] = some (.ret (.grow 0 0 (l.map rowI)), [.grow 0 1])
  noC : ∀ (xs : List AV) (H : List AObj), ext 14 xs H = none
  noF : ∀ (xs : List AV) (H : List AObj), ext 19 xs H = none
set_option maxHeartbeats 1000000 in
theorem bclause_e (hx : TE ext) (n : Int) (e : Nat) (out : List (List Int)) (c : List Int) (ho : out.length ≤ 1000) (hc : c.length ≤ 1000) : G ext 14 [.ptr 0 0, .d (.sl (c.map rowI))] (bldO n e out) = some (.ret (.tuple []), bldC n e out c) := by
  have ha := all_e hx.toT0 n c (by omega)
  have hcl := G_ext (hx.cloneg c hc)
  have hroom : room ((out.map rowC).length + 1) 24 := room_c (by simp; omega)
  rw [G_body0 (hx.noC _ _) Try.func14 rfl Try.results14 hv_14 rfl]
  unfold bldC bldO
  cases h : allP n c with
  | false =>
    rw [h] at ha
    simp only [Bool.false_eq_true, if_false]
    simp (config := { maxSteps := 4000000 }) (disch := first | (intros; contradiction) | omega) only [go_sem, ha]
  | true =>
    rw [h] at ha
    simp only [if_true]
    simp (config := { maxSteps := 4000000 }) (disch := first | (intros; contradiction) | omega) only [go_sem, ha, hcl, hroom, List.map_append, List.map_cons, List.map_nil, rowC]
theorem bclause0_e (hx : TE ext) (c : List Int) (hc : c.length ≤ 1000) : G ext 14 [.d .nilp, .d (.sl (c.map rowI))] [] = some (.ret (.tuple []), []) := by
  rw [G_body0 (hx.noC _ _) Try.func14 rfl Try.results14 hv_14 rfl]
  simp (config := { maxSteps := 4000000 }) (disch := first | (intros; contradiction) | omega) only [go_sem]
theorem bformula0_e (hx : TE ext) : G ext 19 [.d .nilp] [] = some (.ret (Fm.av ⟨0, []⟩), []) := by
  rw [G_body0 (hx.noF _ _) Try.func19 rfl Try.results19 hv_19 rfl]
  simp only [Fm.av, List.map_nil]
  simp (config := { maxSteps := 4000000 }) (disch := first | (intros; contradiction) | omega) only [go_sem]
set_option maxHeartbeats 1000000 in
theorem bformula_e (hx : TE ext) (n : Int) (e : Nat) (out : List (List Int)) (ho : out.length ≤ 1000) (hc : ∀ c, c ∈ out → c.length ≤ 1000) : G ext 19 [.ptr 0 0] (bldO n e out) = some (.ret (Fm.av ⟨n, out⟩), bldO n e out) := by
  have hol : (out.map rowC).length = out.length := List.length_map _
  rw [G_body0 (hx.noF _ _) Try.func19 rfl Try.results19 hv_19 rfl]
  simp only [Fm.av, bldO]
  simp (config := { maxSteps := 4000000 }) (disch := first | (intros; contradiction) | omega) only [go_sem]
  generalize hL : loopA _ _ _ = L
  apply range_upd hL (by simp (config := { maxSteps := 4000000 }) (disch := first | (intros; contradiction) | omega) only [go_sem] <;> rfl) out rowC (α := List (List Int)) (fun rest k d => d ++ rest = out ∧ d.length = k) (fun k _ => [(4, .any), (20, .d (.int .i64 k))]) (fun k d => [(2, .cells [.d (.int .i64 n), .grow 3 d.length (d.map rowC)]), (3, .grow d.length 1)]) [] (by simp (config := { maxSteps := 4000000 }) (disch := first | (intros; contradiction) | omega) only [go_sem] <;> rfl) ⟨rfl, rfl⟩ ?_ ?_
  · rintro c rest k d ⟨i1, i2⟩ hlt hr hget hk _ next ih
    clear hL
    have hcl := G_ext (hx.cloneg c (hc c (List.mem_of_getElem? hget)))
    have hroom : room ((d.map rowC).length + 1) 24 := room_c (by simp; omega)
    simp only [rowC] at hr
    simp (config := { maxSteps := 4000000 }) (disch := first | (intros; contradiction) | omega) only [go_sem, hlt, hr, hcl, hroom, wrap64]
    exact ih (d ++ [c]) _ ⟨by rw [← i1]; simp, by simp; omega⟩ (by simp (config := { maxSteps := 4000000 }) (disch := first | (intros; contradiction) | omega) only [go_sem, List.map_append, List.length_append, List.length_cons, List.length_nil, List.map_cons, List.map_nil, rowC] <;> rfl)
  · rintro k d ⟨i1, i2⟩ hlt hk next
    clear hL
    rw [List.append_nil] at i1
    subst i1
    simp (config := { maxSteps := 4000000 }) (disch := first | (intros; contradiction) | omega) only [go_sem, hlt]
end Go.Proofs.Ytdmambkajegldaa
