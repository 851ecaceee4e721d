/- Law 4: what must come at any rate; what a program has by any names. Conditions: what is known of names.Check. -/
import Derived.Test.YthfollapianblaaNB
import Derived.Test.YthfollapianblaaNA
import Derived.Test.YthfollapianblaaN42
import Derived.Test.YthfollapianblaaN41
set_option linter.unusedSimpArgs false
set_option linter.unusedVariables false
namespace Go.Proofs.Ythfollapianblaa
open Go Go.Ab
variable {ext : Sem'}
/-- What is known of the functions that are not read by the evaluator. -/
structure T4 (ext : Sem') : Prop extends T0 ext where
  check : ∀ p, OkP p → ext 9 [p.av] [] = some (.ret (dgOf (checkP p)).av, [])
  word : ∀ (s : Str) (n : Nat), s.length ≤ 100 → n ≤ 100 → ext 21 [.d (.str s), .d (.int .i64 n)] [] = some (.ret (.d (.str (wrdP s n))), [])
theorem okP1 : OkP prog1 := by
  refine ⟨by decide, by decide, by simp [prog1], by simp [prog1], ?_, ?_⟩
  · intro f hf
    simp only [prog1, List.mem_singleton] at hf
    subst hf
    exact Nat.le_of_ble_eq_true rfl
  · intro f hf
    simp only [prog1, List.mem_singleton] at hf
    subst hf
    simp [okSs, okS, okEs, okE, arS, arity]
theorem okP2 : OkP prog2 := by
  refine ⟨by decide, by decide, by simp [prog2], by simp [prog2], ?_, ?_⟩
  · intro f hf
    simp only [prog2, List.mem_singleton] at hf
    subst hf
    exact Nat.le_of_ble_eq_true rfl
  · intro f hf
    simp only [prog2, List.mem_singleton] at hf
    subst hf
    simp [okSs, okS, okEs, okE, arS, arity]
theorem check1_e : dgOf (checkP prog1) = ⟨4, 5, (1, 14)⟩ := by kernel_rfl
theorem check2_e : dgOf (checkP prog2) = Dg.zero := by kernel_rfl
theorem text1_e (hx : T4 ext) : G ext 8 [.d (.str src1)] [] = some (.ret (.tuple [prog1.av, Dg.zero.av]), []) := by
  have hsc := rscan_e hx.tx src1 (by decide)
  rw [tok1_e] at hsc
  have hp := parse1_e hx.clear
  unfold Pr0.av Dg.av Dg.zero at *
  rw [G_body hx.clear rfl Try.func8 rfl Try.results8 hv_8 rfl]
  simp (maxSteps := 4000000) (disch := first | (intros; contradiction) | omega) only [go_sem, hsc, hp]
  done
theorem text2_e (hx : T4 ext) : G ext 8 [.d (.str src2)] [] = some (.ret (.tuple [prog2.av, Dg.zero.av]), []) := by
  have hsc := rscan_e hx.tx src2 (by decide)
  rw [tok2_e] at hsc
  have hp := parse2_e hx.clear
  unfold Pr0.av Dg.av Dg.zero at *
  rw [G_body hx.clear rfl Try.func8 rfl Try.results8 hv_8 rfl]
  simp (maxSteps := 4000000) (disch := first | (intros; contradiction) | omega) only [go_sem, hsc, hp]
  done
theorem alive4_e (hx : T4 ext) : G ext 7 [] [] = some (.ret (.d (.bool true)), []) := by
  have h1 := text1_e hx
  have h2 := text2_e hx
  have c1 := G_ext (hx.check prog1 okP1)
  have c2 := G_ext (hx.check prog2 okP2)
  rw [check1_e] at c1
  rw [check2_e] at c2
  have f2 := func_e hx.toT0 prog2 [109, 97, 105, 110] (by decide)
  have i2 : idxN (nmF [109, 97, 105, 110]) prog2.funcs = 0 := by kernel_rfl
  rw [i2] at f2
  unfold Pr0.av Dg.av Dg.zero at *
  generalize prog1.structs.map Sr0.row = a1 at *
  generalize prog1.funcs.map Fn0.row = b1 at *
  generalize prog2.structs.map Sr0.row = a2 at *
  generalize prog2.funcs.map Fn0.row = b2 at *
  unfold src1 at h1
  unfold src2 at h2
  rw [G_body hx.clear rfl Try.func7 rfl Try.results7 hv_7 rfl]
  simp (maxSteps := 4000000) (disch := first | (intros; contradiction) | omega) only [go_sem, List.append_eq, List.cons_append, List.nil_append, h1, h2, c1, c2, f2]
  done
end Go.Proofs.Ythfollapianblaa
