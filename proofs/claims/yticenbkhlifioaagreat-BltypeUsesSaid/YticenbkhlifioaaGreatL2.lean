/- Law 22: the example; what is safe; what is read. Conditions: none. -/
import Derived.Test.YticenbkhlifioaaGreatM18
import Derived.Test.YticenbkhlifioaaGreatR8
import Derived.Test.YticenbkhlifioaaGreatL1
set_option linter.unusedSimpArgs false
set_option linter.unusedVariables false
namespace Go.Proofs.YticenbkhlifioaaGreat
open Go Go.Ab
variable {ext : Sem'}
def exI (op n : Int) : In1 := ⟨op, 0, 0, 0, 0, n, [], [], [], 0, 0, (0, 0)⟩
def exM : Md1 := ⟨[], [⟨[109, 97, 105, 110], 0, [⟨⟨false, []⟩, 0⟩], ⟨⟨false, []⟩, 0⟩, [], [exI 1 7, exI 18 0]⟩]⟩
def exM0 : Md1 := ⟨[], []⟩
theorem exM_light : LightM exM := by
  refine ⟨by decide, by decide, fun s h => absurd (show s ∈ [] from h) (by simp), fun c h => ?_, fun c h => ?_⟩
  · simp only [exM, List.mem_singleton] at h; subst h; decide
  · simp only [exM, List.mem_singleton] at h; subst h
    intro i hi
    simp only [exI, List.mem_cons, List.not_mem_nil, or_false] at hi
    rcases hi with rfl | rfl <;> decide
theorem exM0_light : LightM exM0 := ⟨by decide, by decide, fun s h => absurd (show s ∈ [] from h) (by simp), fun s h => absurd (show s ∈ [] from h) (by simp), fun s h => absurd (show s ∈ [] from h) (by simp)⟩
theorem exM_check : checkA exM = .agg [.d (.int .i64 0), .d (.int .i64 0), .d (.int .i64 0), .d (.int .i64 0)] := by kernel_rfl
theorem exM0_check : checkA exM0 = .agg [.d (.int .i64 22), .d (.int .i64 (formedP exM0)), .d (.int .i64 0), .d (.int .i64 0)] := by kernel_rfl
theorem exM0_formed : formedP exM0 = 9 := by kernel_rfl
set_option maxHeartbeats 4000000 in
theorem alive22_e (hx : TM ext) : G ext 5 [] [] = some (.ret (.d (.bool true)), []) := by
  have h1 := check_e hx exM exM_light (fun s h => absurd (show s ∈ [] from h) (by simp))
  have h2 := check_e hx exM0 exM0_light (fun s h => absurd (show s ∈ [] from h) (by simp))
  rw [exM_check] at h1
  rw [exM0_check, exM0_formed] at h2
  have f1 := fits_e hx.toTX 2 1
  have f2 := fits_e hx.toTX 1 2
  have c1 := change_e hx.toTX 2
  have c2 := change_e hx.toTX 3
  rw [show fitsP 2 1 = true from rfl] at f1
  rw [show fitsP 1 2 = false from rfl] at f2
  rw [show changeP 2 = true from rfl] at c1
  rw [show changeP 3 = false from rfl] at c2
  simp only [exM, exM0, exI, Md1.av, Md1.sr, Md1.fr, List.map_cons, List.map_nil, Cd1.row, Vr1.row, In1.row, ints, rowI] at h1 h2
  rw [G_body hx.clear rfl Tryz.func5 rfl Tryz.results5 hv_5 rfl]
  simp (config := { maxSteps := 4000000 }) (disch := first | (intros; contradiction) | omega) only [go_sem, h1, h2, f1, f2, c1, c2]
end Go.Proofs.YticenbkhlifioaaGreat
