/- The machine: a run. Conditions: none. -/
import Derived.Test.YtkflggjdlflndaaGreatZA
set_option linter.unusedSimpArgs false
set_option linter.unusedVariables false
namespace Go.Proofs.YtkflggjdlflndaaGreat
open Go Go.Ab
variable {ext : Sem'}
/-- A step of a machine that goes. -/
def stepM (s : Mc) : Mc :=
  match s.top with
  | none => s
  | some k => match s.reg[k]? with
    | some (.fr c pc vk vn up tv) => (match s.reg[vk]? with
      | some (.vs l) => (match c.ins[pc.toNat]? with
        | some i =>
          if i.op = 16 then s.at k c i.to vk vn up tv
          else if i.op = 17 then s.at k c (if (nthV l i.a).1 ≠ 0 then i.to else i.els) vk vn up tv
          else if i.op = 15 then (match s.m.funcs[i.f.toNat]? with
            | some c2 => enterP (s.next k c pc vk vn up tv) c2 (i.args.map (nthV l)) i.d
            | none => s)
          else if i.op = 18 then leaveP (s.next k c pc vk vn up tv) (nthV l i.a)
          else if (numbersP (s.next k c pc vk vn up tv) i vk l).1 then
            (if (heapM (numbersP (s.next k c pc vk vn up tv) i vk l).2 i vk l).1 then (heapM (numbersP (s.next k c pc vk vn up tv) i vk l).2 i vk l).2
             else { (heapM (numbersP (s.next k c pc vk vn up tv) i vk l).2 i vk l).2 with kind := 2 })
          else { (numbersP (s.next k c pc vk vn up tv) i vk l).2 with kind := 2 }
        | none => s)
      | _ => s)
    | _ => s
def runM : Nat → Mc → Mc
  | 0, s => s
  | n + 1, s => if s.kind = 4 then runM n (stepM s) else s
theorem runM_succ : ∀ (n : Nat) (s : Mc), runM (n + 1) s = if (runM n s).kind = 4 then stepM (runM n s) else runM n s
  | 0, s => rfl
  | n + 1, s => by
    rw [runM]
    split
    · rename_i h
      rw [runM_succ n (stepM s)]
      simp only [runM, if_pos h]
    · rename_i h
      simp only [runM, if_neg h]
theorem runM_stay {n : Nat} {s : Mc} (h : (runM n s).kind ≠ 4) : ∀ k, n ≤ k → runM k s = runM n s := by
  intro k hk
  induction k with
  | zero => have : n = 0 := by omega
            subst this; rfl
  | succ k ih =>
    rcases Nat.lt_or_ge k n with h1 | h1
    · have : k + 1 = n := by omega
      rw [this]
    · rw [runM_succ, ih h1, if_neg h]
set_option maxHeartbeats 4000000 in
theorem run_bad (hx : T3 ext) (he : ∀ xs H, ext 11 xs H = none) (m : Md1) (hl : LightM m) (inp : List Int) (fails : List Bool) (fuel : Int) (R : List Blk) (hr : ¬ rightP m = 0) :
    G ext 11 [m.av, .d (.sl (inp.map rowU)), .d (.sl (fails.map rowT)), .d (.int .i64 fuel)] [.reg (rgA R)] = some (.ret (.agg [.d (.int .i64 0), .d (.int .i64 0), .d (.sl []), .d (.int .i64 0), .d (.int .i64 0)]), [.reg (rgA R)]) := by
  have h1 := new_bad hx m hl inp fails R hr
  rw [G_bodyN (he _ _) Tryz.func11 rfl Tryz.results11 hv_11 rfl]
  simp only [Md1.av, Md1.sr, Md1.fr] at h1 ⊢
  simp (maxSteps := 4000000) (disch := first | (intros; contradiction) | omega) only [go_sem, h1, hr]
  done
set_option maxHeartbeats 4000000 in
theorem run_m (hx : T3 ext) (he : ∀ xs H, ext 11 xs H = none) (m : Md1) (inp : List Int) (fails : List Bool) (fuel : Int) (R : List Blk) (s0 : Mc)
    (hnew : G ext 14 [m.av, .d (.sl (inp.map rowU)), .d (.sl (fails.map rowT))] [.reg (rgA R)] = some (.ret (.tuple [.ptr 1 0, .d (.int .i64 0)]), s0.H))
    (hf0 : 0 ≤ fuel) (hf1 : fuel ≤ 1000000)
    (hstep : ∀ j : Nat, (j : Int) < fuel → (runM j s0).kind = 4 → G ext 16 [.ptr 1 0] (runM j s0).H = some (.ret (.d (.bool true)), (stepM (runM j s0)).H))
    (hout : G ext 15 [.ptr 1 0] (runM fuel.toNat s0).H = some (.ret (outA (runM fuel.toNat s0)), (runM fuel.toNat s0).H)) :
    G ext 11 [m.av, .d (.sl (inp.map rowU)), .d (.sl (fails.map rowT)), .d (.int .i64 fuel)] [.reg (rgA R)] = some (.ret (outA (runM fuel.toNat s0)), [.reg (rgA (runM fuel.toNat s0).reg)]) := by
  have kr0 := cell_refs s0.cells
  have kn0 := fun f => cell_ren f s0.cells
  rw [G_bodyN (he _ _) Tryz.func11 rfl Tryz.results11 hv_11 rfl]
  simp only [Md1.av, Md1.sr, Md1.fr, Mc.H, Mc.obj] at hnew ⊢
  generalize hc0 : s0.cells.map cellA = cs0 at kr0 kn0 hnew ⊢
  simp (maxSteps := 4000000) (disch := first | (intros; contradiction) | omega) only [go_sem, kr0, kn0, hnew]
  generalize hL : loopA _ _ _ = L
  apply loop_upd hL (by simp (maxSteps := 4000000) (disch := first | (intros; contradiction) | omega) only [go_sem, kr0] <;> rfl) (fun j : Nat => j ≤ fuel.toNat) (fun j => fuel.toNat - j) (fun j => [(11, .d (.int .i64 j))])
    (fun j => [(0, .reg (rgA (runM j s0).reg)), (4, .cells [.d (.sl ((runM j s0).m.structs.map Sc1.row)), .d (.sl ((runM j s0).m.funcs.map Cd1.row)), .d (.sl ((runM j s0).inp.map rowU)), .d (.sl ((runM j s0).fails.map rowT)), ptrV (runM j s0).top, .stk 5 (runM j s0).es (runM j s0).cells.length, .d (.int .i64 (runM j s0).asked), .d (.int .i64 (runM j s0).kind), .d (.int .i64 (runM j s0).code), .grow 6 (runM j s0).eg ((runM j s0).out.map rowU), .d (.int .i64 (runM j s0).steps), .d (.int .i64 0)]),
      (5, .stk (runM j s0).es 1 ((runM j s0).cells.map cellA)), (6, .grow (runM j s0).eg 1)]) 0 (by rw [← hc0]; rfl) (Nat.zero_le _)
  rintro j hj next ih
  clear hL
  have kr := cell_refs (runM j s0).cells
  have kn := fun f => cell_ren f (runM j s0).cells
  by_cases hlt : (j : Int) < fuel
  · by_cases hk : (runM j s0).kind = 4
    · have hs := hstep j hlt hk
      have e1 : runM (j + 1) s0 = stepM (runM j s0) := by rw [runM_succ, if_pos hk]
      have ih := fun st' => ih (j + 1) st' (by omega) (by omega)
      rw [← e1] at hs
      have kr1 := cell_refs (runM (j + 1) s0).cells
      have kn1 := fun f => cell_ren f (runM (j + 1) s0).cells
      generalize runM (j + 1) s0 = s1 at hs ih kr1 kn1
      clear hout hstep
      generalize runM j s0 = s at hs kr kn ⊢
      simp only [Mc.H, Mc.obj, Md1.sr, Md1.fr] at hs
      generalize s.cells.map cellA = cs at kr kn hs ⊢
      generalize s1.cells.map cellA = cs1 at kr1 kn1 hs ih
      simp (maxSteps := 4000000) (disch := first | (intros; contradiction) | omega) only [go_sem, kr0, kn0, kr, kn, kr1, kn1, hlt, hs]
      rw [wrap64 (by omega) (by omega)]
      refine ih _ ?_
      simp (maxSteps := 4000000) (disch := first | (intros; contradiction) | omega) only [go_sem, kr0, kn0, kr1, kn1] <;> rfl
    · have hs := step_off hx (runM j s0) hk
      have e1 : runM fuel.toNat s0 = runM j s0 := runM_stay hk _ (by omega)
      rw [e1] at hout ⊢
      clear hstep ih
      generalize runM j s0 = s at hs hout kr kn ⊢
      simp only [outA, Mc.H, Mc.obj, Md1.sr, Md1.fr] at hs hout ⊢
      generalize s.cells.map cellA = cs at kr kn hs hout ⊢
      simp (maxSteps := 4000000) (disch := first | (intros; contradiction) | omega) only [go_sem, kr0, kn0, kr, kn, hlt, hs, hout]
      done
  · have e1 : fuel.toNat = j := by omega
    rw [e1] at hout ⊢
    clear hstep ih
    generalize runM j s0 = s at hout kr kn ⊢
    simp only [outA, Mc.H, Mc.obj, Md1.sr, Md1.fr] at hout ⊢
    generalize s.cells.map cellA = cs at kr kn hout ⊢
    simp (maxSteps := 4000000) (disch := first | (intros; contradiction) | omega) only [go_sem, kr0, kn0, kr, kn, hlt, hout]
    done
end Go.Proofs.YtkflggjdlflndaaGreat
