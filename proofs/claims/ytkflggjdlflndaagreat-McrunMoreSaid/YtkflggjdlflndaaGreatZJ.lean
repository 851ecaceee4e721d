/- What is put out stays; failures of which none is told. Conditions: none. -/
import Derived.Test.YtkflggjdlflndaaGreatZI
set_option linter.unusedSimpArgs false
set_option linter.unusedVariables false
namespace Go.Proofs.YtkflggjdlflndaaGreat
open Go Go.Ab
theorem put_out (s : Mc) (vk : Nat) (l : List Vl) (d : Int) (v : Vl) : (s.put vk l d v).out = s.out := rfl
theorem num_out (s : Mc) (i : In1) (vk : Nat) (l : List Vl) : s.out <+: (numbersP s i vk l).2.out := by
  unfold numbersP
  split
  · exact List.prefix_rfl
  split
  · exact List.prefix_rfl
  split
  · unfold getP
    split <;> exact List.prefix_rfl
  split
  · exact List.prefix_append _ _
  split
  · exact List.prefix_rfl
  · exact List.prefix_rfl
theorem fresh_out (s : Mc) (nf : Nat) : (freshP s nf).2.out = s.out := by unfold freshP; split <;> rfl
theorem heap_out (s : Mc) (i : In1) (vk : Nat) (l : List Vl) : (heapM s i vk l).2.out = s.out := by
  unfold heapM
  split
  · rfl
  split
  · rfl
  split
  · exact fresh_out s _
  split
  · rfl
  split
  · split <;> rfl
  split
  · split <;> rfl
  · rfl
theorem step_out (s : Mc) : s.out <+: (stepM s).out := by
  unfold stepM
  split
  · exact List.prefix_rfl
  · split
    · split
      · split
        · split
          · exact List.prefix_rfl
          split
          · exact List.prefix_rfl
          split
          · split <;> exact List.prefix_rfl
          split
          · rw [(leaveP_keep _ _).2.2.2.2.2]; exact List.prefix_rfl
          · split
            · split
              · rw [heap_out]; exact num_out (Mc.next s _ _ _ _ _ _ _) _ _ _
              · show _ <+: (heapM _ _ _ _).2.out
                rw [heap_out]; exact num_out (Mc.next s _ _ _ _ _ _ _) _ _ _
            · exact num_out (Mc.next s _ _ _ _ _ _ _) _ _ _
        · exact List.prefix_rfl
      · exact List.prefix_rfl
    · exact List.prefix_rfl
theorem run_out (s : Mc) : ∀ (j k : Nat), j ≤ k → (runM j s).out <+: (runM k s).out := by
  intro j k hk
  induction k with
  | zero => have : j = 0 := by omega
            subst this; exact List.prefix_rfl
  | succ k ih =>
    rcases Nat.lt_or_ge k j with h | h
    · have : j = k + 1 := by omega
      subst this; exact List.prefix_rfl
    · rw [runM_succ]
      split
      · exact (ih h).trans (step_out _)
      · exact ih h
/-- Other failures, of which the same is told. -/
def Mc.wf (s : Mc) (F : List Bool) : Mc := { s with fails := F }
def failA (F : List Bool) (a : Int) : Bool := if a < F.length then F[a.toNat]?.getD false else false
theorem failsAt_eq (s : Mc) : failsAt s = failA s.fails s.asked := rfl
theorem fresh_wf2 {s : Mc} {F : List Bool} (h : ∀ a, failA s.fails a = failA F a) (nf : Nat) : freshP (s.wf F) nf = ((freshP s nf).1, (freshP s nf).2.wf F) := by
  have e : failsAt (s.wf F) = failsAt s := (h s.asked).symm
  unfold freshP
  rw [e]
  split <;> rfl
theorem num_wf2 (s : Mc) (F : List Bool) (i : In1) (vk : Nat) (l : List Vl) : numbersP (s.wf F) i vk l = ((numbersP s i vk l).1, (numbersP s i vk l).2.wf F) := by
  unfold numbersP
  split
  · rfl
  split
  · rfl
  split
  · have e : getP (s.wf F) = ((getP s).1, (getP s).2.wf F) := by
      unfold getP
      show (match s.inp with
        | [] => _
        | b :: r => _) = _
      cases s.inp <;> rfl
    rw [e]; rfl
  split
  · rfl
  split
  · rfl
  · rfl
theorem heap_wf2 {s : Mc} {F : List Bool} (h : ∀ a, failA s.fails a = failA F a) (i : In1) (vk : Nat) (l : List Vl) : heapM (s.wf F) i vk l = ((heapM s i vk l).1, (heapM s i vk l).2.wf F) := by
  unfold heapM
  split
  · rfl
  split
  · rfl
  split
  · show (true, ((freshP (s.wf F) (nFields s.m i.f)).2.put vk l i.d (freshP (s.wf F) (nFields s.m i.f)).1)) = _
    rw [fresh_wf2 h]; rfl
  split
  · rfl
  split
  · show (match fieldOf s.reg _ with
      | none => _
      | some (_, fl) => _) = _
    cases fieldOf s.reg (nthV l i.a).2 <;> rfl
  split
  · show (match fieldOf s.reg _ with
      | none => _
      | some (fk, fl) => _) = _
    cases fieldOf s.reg (nthV l i.a).2 <;> rfl
  · rfl
theorem leave_wf2 (s : Mc) (F : List Bool) (v : Vl) : leaveP (s.wf F) v = (leaveP s v).wf F := by
  obtain ⟨m, inp, fails, top, cells, asked, kind, code, out, steps, reg, es, eg⟩ := s
  simp only [leaveP, Mc.wf]
  cases top with
  | none => rfl
  | some k =>
    simp only
    cases reg[k]? with
    | none => rfl
    | some b =>
      cases b with
      | fr c pc vk vn up tv =>
        cases up with
        | none => rfl
        | some u =>
          simp only
          cases reg[u]? with
          | none => rfl
          | some b2 =>
            cases b2 with
            | fr c2 pc2 vk2 vn2 up2 tv2 =>
              simp only
              cases reg[vk2]? with
              | none => rfl
              | some b3 => cases b3 <;> rfl
            | _ => rfl
      | _ => rfl
theorem num_fails (s : Mc) (i : In1) (vk : Nat) (l : List Vl) : (numbersP s i vk l).2.fails = s.fails := by
  unfold numbersP
  split
  · rfl
  split
  · rfl
  split
  · unfold getP; split <;> rfl
  split
  · rfl
  split
  · rfl
  · rfl
theorem step_wf2 {s : Mc} {F : List Bool} (h : ∀ a, failA s.fails a = failA F a) : stepM (s.wf F) = (stepM s).wf F := by
  have e1 : ∀ k c pc vk vn up tv, (s.wf F).next k c pc vk vn up tv = (s.next k c pc vk vn up tv).wf F := fun _ _ _ _ _ _ _ => rfl
  have e2 : ∀ k c pc vk vn up tv, (s.wf F).at k c pc vk vn up tv = (s.at k c pc vk vn up tv).wf F := fun _ _ _ _ _ _ _ => rfl
  have h1 : ∀ k c pc vk vn up tv i l, ∀ a, failA (numbersP (s.next k c pc vk vn up tv) i vk l).2.fails a = failA F a := fun k c pc vk vn up tv i l => by rw [num_fails]; exact h
  have et : (s.wf F).top = s.top := rfl
  have er : (s.wf F).reg = s.reg := rfl
  have em : (s.wf F).m = s.m := rfl
  have e3 : ∀ (q : Mc) c args tv, enterP (q.wf F) c args tv = (enterP q c args tv).wf F := fun _ _ _ _ => rfl
  unfold stepM
  rw [et, er, em]
  simp only [e1, e2, e3, num_wf2, leave_wf2]
  cases s.top with
  | none => rfl
  | some k =>
    simp only
    cases s.reg[k]? with
    | none => rfl
    | some b =>
      cases b with
      | fr c pc vk vn up tv =>
        simp only
        cases s.reg[vk]? with
        | none => rfl
        | some b2 =>
          cases b2 with
          | vs l =>
            simp only
            cases c.ins[pc.toNat]? with
            | none => rfl
            | some i =>
              simp only [heap_wf2 (h1 k c pc vk vn up tv i l)]
              split
              · rfl
              split
              · rfl
              split
              · cases s.m.funcs[i.f.toNat]? <;> rfl
              split
              · rfl
              · split
                · split <;> rfl
                · rfl
          | _ => rfl
      | _ => rfl
theorem run_wf2 {F : List Bool} : ∀ (j : Nat) {s : Mc}, (∀ k, (runM k s).fails = s.fails) → (∀ a, failA s.fails a = failA F a) → runM j (s.wf F) = (runM j s).wf F
  | 0, s, _, _ => rfl
  | j + 1, s, hf, h => by
    rw [runM_succ, runM_succ, run_wf2 j hf h]
    have ek : ((runM j s).wf F).kind = (runM j s).kind := rfl
    rw [ek]
    split
    · exact step_wf2 (by rw [hf j]; exact h)
    · rfl
theorem rep_false (n i : Nat) : ((List.replicate n false)[i]?).getD false = false := by
  cases hx : (List.replicate n false)[i]? with
  | none => rfl
  | some b => rw [(List.mem_replicate.1 (List.mem_of_getElem? hx)).2]; rfl
theorem fail_tail (F : List Bool) (n : Nat) (a : Int) : failA F a = failA (F ++ List.replicate n false) a := by
  unfold failA
  rw [List.length_append, List.length_replicate]
  by_cases h : a < F.length
  · rw [if_pos h, if_pos (by omega)]
    by_cases h2 : a.toNat < F.length
    · rw [List.getElem?_append_left h2]
    · rw [List.getElem?_append_right (by omega), rep_false, List.getElem?_eq_none (by omega)]; rfl
  · rw [if_neg h]
    split
    · rw [List.getElem?_append_right (by omega), rep_false]
    · rfl
end Go.Proofs.YtkflggjdlflndaaGreat
