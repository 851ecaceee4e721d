/- The machine: its outcome, a run. Conditions: none. -/
import Derived.Test.YtkflggjdlflndaaGreatZ6
set_option linter.unusedSimpArgs false
set_option linter.unusedVariables false
namespace Go.Proofs.YtkflggjdlflndaaGreat
open Go Go.Ab
variable {ext : Sem'}
def aliveB : Option Blk → Bool
  | some (.ce al _ _) => al
  | _ => false
/-- How many cells are alive. -/
def leftN (R : List Blk) (l : List Nat) : Nat := (l.filter fun k => aliveB R[k]?).length
theorem leftN_succ (R : List Blk) {l : List Nat} {k : Nat} (h : k < l.length) : leftN R (l.take (k + 1)) = leftN R (l.take k) + (if aliveB R[l[k]]? then 1 else 0) := by
  unfold leftN
  rw [List.take_succ_eq_append_getElem h, List.filter_append, List.length_append]
  congr 1
  cases hh : aliveB R[l[k]]? <;> simp [List.filter, hh]
def outA (s : Mc) : AV := .agg [.d (.int .i64 s.kind), .d (.int .i64 s.code), .d (.sl (s.out.map rowU)), .d (.int .i64 s.steps), .d (.int .i64 (leftN s.reg s.cells))]
set_option maxHeartbeats 4000000 in
theorem outcome_m (hx : T3 ext) (s : Mc) (hc : ∀ k, k ∈ s.cells → isCe s.reg[k]?) (hn : s.cells.length ≤ 100000) (ho : s.out.length ≤ 1000000) : G ext 15 [.ptr 1 0] s.H = some (.ret (outA s), s.H) := by
  have kr := cell_refs s.cells
  have kn := fun f => cell_ren f s.cells
  have hcl := G_ext (hx.bclone s.out ho)
  rw [G_body hx.clear rfl Tryz.func15 rfl Tryz.results15 hv_15 rfl]
  simp only [outA, Mc.H, Mc.obj, Md1.sr, Md1.fr]
  have hcs : (s.cells.map cellA).length = s.cells.length := List.length_map _
  generalize hcd : s.cells.map cellA = cs at kr kn hcs ⊢
  simp (maxSteps := 4000000) (disch := first | (intros; contradiction) | omega) only [go_sem, kr, kn, hcl]
  generalize hL : loopA _ _ _ = L
  apply loop_upd hL (by simp (maxSteps := 4000000) (disch := first | (intros; contradiction) | omega) only [go_sem, kr] <;> rfl) (fun k : Nat => k ≤ s.cells.length) (fun k => s.cells.length - k) (fun k => [(21, .d (.int .i64 k))]) (fun k => [(4, .cells [.d (.int .i64 s.kind), .d (.int .i64 s.code), .grow 6 0 (s.out.map rowU), .d (.int .i64 s.steps), .d (.int .i64 (leftN s.reg (s.cells.take k)))])]) 0 rfl (Nat.zero_le _)
  rintro k hk next ih
  by_cases hlt : k < s.cells.length
  · have hlt' : (k : Int) < (s.cells.length : Int) := by omega
    have h0 : (0 : Int) ≤ (k : Int) := by omega
    have hck : cs[k]? = some (.rp s.cells[k] 0) := by rw [← hcd, List.getElem?_map, List.getElem?_eq_getElem hlt]; rfl
    have hce := hc s.cells[k] (List.getElem_mem hlt)
    have htk := leftN_succ s.reg hlt
    have hle : leftN s.reg (s.cells.take k) ≤ k := by
      unfold leftN
      exact Nat.le_trans (List.length_filter_le _ _) (by rw [List.length_take]; omega)
    generalize s.cells[k] = c at hck hce htk
    cases hb : s.reg[c]? with
    | none => rw [hb] at hce; exact hce.elim
    | some b =>
      have hg := get_rg hb
      rw [hb] at hce htk
      cases b with
      | fr _ _ _ _ _ _ => exact hce.elim
      | vs _ => exact hce.elim
      | ce al fk fn =>
        simp only [Blk.av] at hg
        cases al with
        | true =>
          simp only [aliveB, if_true] at htk
          have hadd : IntKind.wrap .i64 ((leftN s.reg (s.cells.take k) : Int) + 1) = (leftN s.reg (s.cells.take (k + 1)) : Int) := by
            rw [htk, wrap64 (by omega) (by omega)]; simp
          simp (maxSteps := 4000000) (disch := first | (intros; contradiction) | omega) only [go_sem, kr, kn, hlt', h0, Nat.mul_one, hck, hg, hadd]
          rw [wrap64 (by omega) (by omega)]
          refine ih (k + 1) _ (by omega) (by omega) ?_
          simp (maxSteps := 4000000) (disch := first | (intros; contradiction) | omega) only [go_sem, kr, kn] <;> rfl
        | false =>
          simp only [aliveB, Bool.false_eq_true, if_false, Nat.add_zero] at htk
          simp (maxSteps := 4000000) (disch := first | (intros; contradiction) | omega) only [go_sem, kr, kn, hlt', h0, Nat.mul_one, hck, hg]
          rw [wrap64 (by omega) (by omega)]
          refine ih (k + 1) _ (by omega) (by omega) ?_
          rw [htk]
          simp (maxSteps := 4000000) (disch := first | (intros; contradiction) | omega) only [go_sem, kr, kn] <;> rfl
  · have hlt' : ¬ (k : Int) < (s.cells.length : Int) := by omega
    rw [List.take_of_length_le (by omega)]
    simp (maxSteps := 4000000) (disch := first | (intros; contradiction) | omega) only [go_sem, kr, kn, hlt']
    done
end Go.Proofs.YtkflggjdlflndaaGreat
