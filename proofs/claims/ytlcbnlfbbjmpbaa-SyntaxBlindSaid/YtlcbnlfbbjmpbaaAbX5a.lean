/- The abstract evaluator: frames that leave. Conditions: the functions that are called are right. -/
import Derived.Test.YtlcbnlfbbjmpbaaAbX4
import Derived.DefersIn
namespace Go.Ab
open Go

section
variable {F : Fence} {n : Nat} {P : Program} {o : Oper} {a : Act}
theorem uponIn_normal {next next' : Act → World → Prop} {Q Q' : Exit → Act → World → Prop} (hn : ∀ a w, next a w → next' a w) (hQ : ∀ e a w, e ≠ .normal → Q e a w → Q' e a w) {r : Result Next} (h : o.uponIn F n P a next Q r) : o.uponIn F n P a next' Q' r := by
  have hL : LetsOut Q → LetsOut Q' := fun ⟨a, w, h⟩ => ⟨a, w, hQ _ _ _ (by simp) h⟩
  cases r with
  | ok nx w' =>
    cases nx with
    | value v => exact hn _ _ h
    | skip => exact hn _ _ h
    | defer d => exact hn _ _ h
    | enter f args =>
      refine ⟨h.1, h.2.mono fun e w'' he => ?_⟩
      cases e with
      | returned v => exact hn _ _ he
      | panicked c => exact hQ _ _ _ (by simp) he
      | outgrown => exact hL he
    | row rw args => exact ⟨h.1, h.2.mono fun v w'' he => hn _ _ he⟩
    | round l f tmps x y =>
      refine ⟨h.1, h.2.mono fun e w'' he => ?_⟩
      cases e with
      | returned v => exact hn _ _ he
      | panicked c => exact hQ _ _ _ (by simp) he
      | outgrown => exact hL he
    | _ => exact h.elim
  | halt hh w' =>
    cases hh with
    | panic v => exact hQ _ _ _ (by simp) h
    | _ => exact h.elim
theorem wpOpsIn_app {ops : Array Oper} {Q : Exit → Act → World → Prop} : ∀ (xs ys : List Nat) (a : Act) (w : World), wpOpsIn F n P ops (fun e a w => match e with | .normal => wpOpsIn F n P ops Q ys a w | e => Q e a w) xs a w → wpOpsIn F n P ops Q (xs ++ ys) a w
  | [], ys, a, w, h => h
  | i :: xs, ys, a, w, h => by
    simp only [List.cons_append]
    unfold wpOpsIn at h ⊢
    cases ho : ops[i]? with
    | none => rw [ho] at h; exact wpOpsIn_app xs ys a w h
    | some o =>
      rw [ho] at h
      simp only at h ⊢
      split
      · rename_i hw
        rw [if_pos hw] at h
        exact ⟨h.1, uponIn_normal (fun a w h => wpOpsIn_app xs ys a w h) (fun e a w hne h => by cases e <;> first | exact absurd rfl hne | exact h) h.2⟩
      · rename_i hw
        rw [if_neg hw] at h
        exact ⟨h.1, wpOpsIn_app xs ys _ w h.2⟩
end

/-! ### code without loops -/
section
variable {P : Program} {Γ : Sem'} {hd : Nat → Option (List Ht)}
end

/-! ### one deferred call -/
section
variable (P : Program) (Γ : Sem') (hd : Nat → Nat → Option (List Ht)) (hv : Nat → List Nat) (hf : Nat → Nat → List Nat)
end
section
variable {P : Program} {Γ : Sem'} {hd : Nat → Nat → Option (List Ht)} {hv : Nat → List Nat} {hf : Nat → Nat → List Nat}

theorem leave_len {kp : Bool} {mk : AV → Out} {k : Nat} {H H' : List AObj} {oc : Option AV} {out : Out} (h : leave kp mk k H oc = some (out, H')) (hk : k ≤ H.length) : k ≤ H'.length := by
  cases oc with
  | none => simp [leave] at h
  | some ov =>
    simp only [leave, leaveP] at h
    generalize prepQ ov kp = ov at h
    cases hg : giveQ H ov kp with
    | none => rw [hg] at h; cases h
    | some c1 =>
      rw [hg] at h
      simp only [leave1] at h
      have h1 : H.length ≤ (setOs H (noes (arrs2 ov))).length := len_setOs _ _
      generalize setOs H (noes (arrs2 ov)) = H1 at h h1
      cases hb' : (refsOk k (refs c1) && refsOk k (refsH (H1.take k))) with
      | true => rw [hb'] at h; simp only [leave2] at h; cases h; simp; omega
      | false =>
        rw [hb'] at h
        simp only [leave2] at h
        generalize reach H1 (2 * H1.length + 8) (refs c1 ++ refsH (H1.take k)) (List.range k) = ρ at h
        cases hcc : (closed H1 ρ [c1] && decide (ρ.take k = List.range k)) with
        | false => rw [hcc] at h; cases h
        | true =>
          rw [hcc] at h
          simp only [leave3] at h
          cases h
          simp only [Bool.and_eq_true, decide_eq_true_eq] at hcc
          have := congrArg List.length hcc.2
          simp at this ⊢; omega
theorem finish_len {rs : List ResultVar} {k : Nat} {st : St} {out : Out} {H' : List AObj} (h : finish P rs k (.ex .ret st) = some (out, H')) (hk : k ≤ st.H.length) : k ≤ H'.length := leave_len h hk
theorem leaves_marks2 {fn : Func} {tmps : Array Value} {R : Ending → World → Prop} {u : FrameMode} {n0 : Nat} {Im : Imm} {g : List Gh} {I : World → Prop} {base : List Deferred} (hu : u ≠ .run)
    (hstep : ∀ w r, I w → MarkAt n0 w Im g r → I (w.putObj r (.deferred none))) (hend : ∀ w, I w → LeavesInM Fence.wide 0 P fn tmps R base u w) {w : World} {ds : List Deferred} (hm : Marks n0 w Im g base ds) (hI : I w) : LeavesInM Fence.wide 0 P fn tmps R ds u w := by
  obtain ⟨rs, rfl, h2, h3⟩ := hm
  induction rs generalizing w with
  | nil => exact hend w hI
  | cons r rs ih =>
    rw [List.nodup_cons] at h2
    have hr := h3 r (by simp)
    refine ⟨hu, .inl ⟨r, _, rfl, run_takeDeferred hr.2.1, ih (hstep w r hI hr) h2.2 (fun q hq => ?_)⟩⟩
    obtain ⟨q1, q2, q3, q4⟩ := h3 q (by simp [hq])
    exact ⟨q1, by rw [World.putObj_heap_other (fun h : q = r => h2.1 (h ▸ hq))]; exact q2, q3, q4⟩

/-- A frame that returns, and has nothing more deferred. -/
theorem leaves_nil {F : Func} {w0 : World} {Im0 : Imm} {g0 : List Gh} {H0 H' : List AObj} {out : Out} {w : World} {Im : Imm} {g : List Gh} {st : St} {tmps : Array Value} (h0 : HR P w0 Im0 g0 H0) (e : Ext w0 Im0 g0 w Im g) (hf : FrameRep w Im g st tmps) (hH : HR P w Im g st.H) (hk : H0.length ≤ st.H.length)
    (h : finish P F.results.toList H0.length (.ex .ret st) = some (out, H')) : LeavesInM Fence.wide 0 P F tmps (CallPost P w0 Im0 g0 out H') [] .returning w := by
  simp only [finish] at h
  cases ho : oneO (resL P st F.results.toList) with
  | none => rw [ho] at h; simp [leave] at h
  | some ov =>
    rw [ho] at h
    obtain ⟨v, h1, h2⟩ := results_ok hf hH ho
    obtain ⟨_, c', Im'', g'', k1, k2, k3, k4⟩ := leave_post h0 e hH h2 hk h
    refine ⟨v, h1, Im'', g'', k2, k3, ?_⟩
    subst k1
    exact ⟨v, rfl, k4⟩
end
end Go.Ab
