/- The machine: a new one, a run. Conditions: none. -/
import Derived.Test.YtkflggjdlflndaaGreatZ9
set_option linter.unusedSimpArgs false
set_option linter.unusedVariables false
namespace Go.Proofs.YtkflggjdlflndaaGreat
open Go Go.Ab
variable {ext : Sem'}
def mainIx (m : Md1) : Int := funcIx m [109, 97, 105, 110]
/-- A machine that has not begun. -/
def Mc.start (m : Md1) (inp : List Int) (fails : List Bool) (R : List Blk) : Mc := ⟨m, inp, fails, none, [], 0, 4, 0, [], 0, R, 0, 0⟩
theorem fits_rowT (l : List Bool) : fits 1 (l.map rowT) := by intro row h; obtain ⟨x, _, rfl⟩ := List.mem_map.1 h; rfl
set_option maxHeartbeats 4000000 in
theorem new_bad (hx : T3 ext) (m : Md1) (hl : LightM m) (inp : List Int) (fails : List Bool) (R : List Blk) (hr : ¬ rightP m = 0) :
    G ext 14 [m.av, .d (.sl (inp.map rowU)), .d (.sl (fails.map rowT))] [.reg (rgA R)] = some (.ret (.tuple [.d .nilp, .d (.int .i64 (rightP m))]), [.reg (rgA R)]) := by
  have h1 := right_e hx.toTM m hl
  rw [G_body hx.clear rfl Tryz.func14 rfl Tryz.results14 hv_14 rfl]
  simp only [Md1.av, Md1.sr, Md1.fr] at h1 ⊢
  simp (maxSteps := 4000000) (disch := first | (intros; contradiction) | omega) only [go_sem, h1, hr]
  done
set_option maxHeartbeats 4000000 in
theorem new_m (hx : T3 ext) (m : Md1) (hl : LightM m) (inp : List Int) (fails : List Bool) (R : List Blk) (c : Cd1) (hr : rightP m = 0) (hi : inp.length ≤ 1000) (hfl : fails.length ≤ 1000) (h0 : 0 ≤ mainIx m) (hf : m.funcs[(mainIx m).toNat]? = some c) (hv : c.vars.length ≤ 1000) :
    G ext 14 [m.av, .d (.sl (inp.map rowU)), .d (.sl (fails.map rowT))] [.reg (rgA R)] = some (.ret (.tuple [.ptr 1 0, .d (.int .i64 0)]), (enterP (Mc.start m inp fails R) c [] 0).H) := by
  have h1 := right_e hx.toTM m hl
  rw [hr] at h1
  have h2 := func_e hx.toTX m (by have := hl.funcs; omega) [109, 97, 105, 110]
  have h3 := G_ext (hx.bclone inp (by omega))
  have h4 := G_ext (hx.enter0 (Mc.start m inp fails R) (mainIx m) 0 c h0 hf hv)
  have hft := fits_rowT fails
  have hrm : room (0 + (fails.map rowT).length) 1 := by unfold room; rw [List.length_map]; simp; omega
  have hrm2 : room ((fails.map rowT).length) 1 := by unfold room; rw [List.length_map]; simp; omega
  unfold mainIx at h4
  generalize funcIx m [109, 97, 105, 110] = ix at h2 h4
  generalize enterP (Mc.start m inp fails R) c [] 0 = s2 at h4 ⊢
  have kr2 := cell_refs s2.cells
  have kn2 := fun f => cell_ren f s2.cells
  rw [G_body hx.clear rfl Tryz.func14 rfl Tryz.results14 hv_14 rfl]
  simp only [Mc.start, Md1.av, Md1.sr, Md1.fr, Mc.H, Mc.obj, ptrV_none, List.map_nil, List.length_nil] at h1 h2 h4 ⊢
  generalize s2.cells.map cellA = cs2 at kr2 kn2 h4 ⊢
  simp (maxSteps := 4000000) (disch := first | (intros; contradiction) | omega) only [go_sem, kr2, kn2, h1, h2, h3, h4, hft, hrm, hrm2]
  done
end Go.Proofs.YtkflggjdlflndaaGreat
