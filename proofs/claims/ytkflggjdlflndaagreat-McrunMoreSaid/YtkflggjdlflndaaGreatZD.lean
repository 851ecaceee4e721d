/- The machine goes right: each step. Conditions: none. -/
import Derived.Test.YtkflggjdlflndaaGreatZC
set_option linter.unusedSimpArgs false
set_option linter.unusedVariables false
namespace Go.Proofs.YtkflggjdlflndaaGreat
open Go Go.Ab
theorem unl_zero {b : Bool} {f : Int} (hf : f ≠ 0) (h : unlessP b f = 0) : b = true := by
  unfold unlessP at h
  split at h
  · assumption
  · contradiction
theorem first_zero {α : Type} {f : α → Int} : ∀ {l : List α}, firstP f l = 0 → ∀ x, x ∈ l → f x = 0
  | [], _, x, hx => by cases hx
  | y :: l, h, x, hx => by
    simp only [firstP] at h
    split at h
    · rename_i h0
      rcases List.mem_cons.1 hx with rfl | hx
      · exact h0
      · exact first_zero h x hx
    · contradiction
structure RightM (m : Md1) : Prop where
  once : twiceP m = false
  known : (typesL m).all (knownP m) = true
  code : ∀ c, c ∈ m.funcs → codeP m c = 0
  main : mainP m = 0
theorem right_parts {m : Md1} (h : rightP m = 0) : RightM m := by
  unfold rightP at h
  split at h
  · cases h
  · split at h
    · cases h
    · rename_i h2
      split at h
      · cases h
      · rename_i h3
        split at h
        · rename_i h4
          exact ⟨by simpa using h2, by simpa using h3, first_zero h4, h⟩
        · contradiction
theorem code_parts {m : Md1} {c : Cd1} (h : codeP m c = 0) : c.vars.length ≤ 300 ∧ 1 ≤ c.ins.length ∧ 0 ≤ c.params ∧ c.params ≤ c.vars.length ∧ (∀ i, i ∈ c.ins → instrP m c i = 0) ∧ 16 ≤ lastOp c := by
  unfold codeP at h
  split at h
  · cases h
  · split at h
    · cases h
    · split at h
      · rename_i h1 h2 h3
        have := unl_zero (by decide) h
        exact ⟨by omega, by omega, by omega, by omega, first_zero h3, by simpa using this⟩
      · contradiction
/-- Behind an instruction that does not leave comes another. -/
theorem next_in {c : Cd1} {pc : Int} {i : In1} (h0 : 0 ≤ pc) (hi : c.ins[pc.toNat]? = some i) (hl : 16 ≤ lastOp c) (ho : i.op < 16) : pc + 1 < (c.ins.length : Nat) := by
  have hlt := (List.getElem?_eq_some_iff.1 hi).1
  rcases Nat.lt_or_ge (pc.toNat + 1) c.ins.length with h | h
  · omega
  · have e : c.ins.length - 1 = pc.toNat := by omega
    unfold lastOp at hl
    rw [e, hi] at hl
    simp at hl
    omega
theorem tys_at {c : Cd1} {x : Int} (h : inV c x = true) : (c.vars.map (·.t))[x.toNat]? = some (varT c x) := by
  have h' := inV_iff.1 h
  rw [List.getElem?_map]
  unfold varT
  rw [List.getElem?_eq_getElem (show x.toNat < c.vars.length by omega)]
  rfl
/-- A machine in the midst: the frame on top, its instruction. -/
structure Cx (s : Mc) (T : Nat → Option (List UInt8)) (V : Nat → List Ty1) (k : Nat) (c : Cd1) (pc : Int) (vk : Nat) (l : List Vl) (up : Option Nat) (tv : Int) (i : In1) : Prop where
  f : Fr s k c pc vk l up tv i
  ok : FrOk s.m s.reg V k c pc vk l.length up tv
  ch : Chain s.m s.reg V up
  len : l.length = c.vars.length
  ins : instrP s.m c i = 0
  last : 16 ≤ lastOp c
theorem cx_of {s : Mc} {T : Nat → Option (List UInt8)} {V : Nat → List Ty1} (w : Wf s T V) (hk : s.kind = 4) : ∃ k c pc vk l up tv i, Cx s T V k c pc vk l up tv i := by
  have hr := right_parts w.right
  have hc := w.chain
  cases ht : s.top with
  | none => exact absurd ht (w.go hk)
  | some k =>
    rw [ht] at hc
    cases hc with
    | cons h t =>
      rename_i c pc vk vn up tv
      obtain ⟨l, hl, hln⟩ := h.vs
      subst hln
      have hlt : pc.toNat < c.ins.length := by have := h.pc0; have := h.pc1; omega
      have hcp := code_parts (hr.code c h.code)
      refine ⟨k, c, pc, vk, l, up, tv, c.ins[pc.toNat], ⟨⟨hk, ht, h.fr, hl, h.pc0, List.getElem?_eq_getElem hlt⟩, h, t, ?_, hcp.2.2.2.2.1 _ (List.getElem_mem hlt), hcp.2.2.2.2.2⟩⟩
      have := (w.heap.vs vk l hl).1
      rw [h.vars, List.length_map] at this
      exact this
theorem Cx.kv {s : Mc} {T : Nat → Option (List UInt8)} {V : Nat → List Ty1} {k : Nat} {c : Cd1} {pc : Int} {vk : Nat} {l : List Vl} {up : Option Nat} {tv : Int} {i : In1} (x : Cx s T V k c pc vk l up tv i) : k ≠ vk := by
  intro e
  have h1 := x.f.fr
  have h2 := x.f.vs
  rw [e, h2] at h1
  cases h1
/-- The frame on top goes to another line. -/
theorem wf_at {s : Mc} {T : Nat → Option (List UInt8)} {V : Nat → List Ty1} (w : Wf s T V) {k : Nat} {c : Cd1} {pc : Int} {vk : Nat} {l : List Vl} {up : Option Nat} {tv : Int} {i : In1} (x : Cx s T V k c pc vk l up tv i) {q : Int} (h0 : 0 ≤ q) (h1 : q < (c.ins.length : Nat)) : Wf (s.at k c q vk l.length up tv) T V := by
  have hm := mv_fr x.f.fr q
  refine ⟨w.right, w.heap.fr x.f.fr q, ?_, fun j hj => hm.isCe (w.cells j hj), w.go⟩
  show Chain s.m (s.reg.set k _) V s.top
  rw [x.f.top]
  have hf := x.ok
  refine .cons (c := c) (pc := q) (vk := vk) (vn := l.length) (up := up) (tv := tv) ⟨set_at hf.fr _, ?_, hf.code, h0, h1, hf.vars, fun u hu => ?_⟩ (x.ch.mv hm (fun u hu => (hf.below u hu).1) (fun _ _ _ => rfl))
  · obtain ⟨l', h3, h4⟩ := hm.vs vk l x.f.vs
    exact ⟨l', h3, h4⟩
  · obtain ⟨k1, c2, pc2, vk2, vn2, up2, tv2, k2, k3, k4⟩ := hf.below u hu
    exact ⟨k1, c2, pc2, vk2, vn2, up2, tv2, hm.fr u _ _ _ _ _ _ k1 k2, k3, k4⟩
/-- A value is put. -/
theorem wf_put {s : Mc} {T : Nat → Option (List UInt8)} {V : Nat → List Ty1} (w : Wf s T V) {vk : Nat} {l : List Vl} (hv : s.reg[vk]? = some (.vs l)) {d : Int} {t : Ty1} (ht : (V vk)[d.toNat]? = some t) {v : Vl} (hok : vOk s.reg T t v) : Wf (s.put vk l d v) T V := by
  have hm := fun b => mv_vs hv (l' := l.set d.toNat v) (by simp) b
  refine ⟨w.right, w.heap.put hv ht hok, ?_, fun j hj => (hm 0).isCe (w.cells j hj), w.go⟩
  show Chain s.m (s.reg.set vk (.vs (l.set d.toNat v))) V s.top
  cases ht : s.top with
  | none => exact Chain.nil
  | some k =>
    have hc := w.chain
    rw [ht] at hc
    exact hc.mv (hm (k + 1)) (fun q hq => by cases hq; omega) (fun _ _ _ => rfl)
theorem vOk_num (R : List Blk) (T : Nat → Option (List UInt8)) {t : Ty1} (h : t.ptr = false) (v : Vl) : vOk R T t v := fun hp => by rw [h] at hp; cases hp
theorem vOk_null (R : List Blk) (T : Nat → Option (List UInt8)) (t : Ty1) (n : Int) : vOk R T t (n, none) := fun _ k hk => by cases hk
end Go.Proofs.YtkflggjdlflndaaGreat
