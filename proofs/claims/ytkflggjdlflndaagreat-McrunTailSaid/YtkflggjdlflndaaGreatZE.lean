/- The machine goes right: numbers and pointers. Conditions: none. -/
import Derived.Test.YtkflggjdlflndaaGreatZD
set_option linter.unusedSimpArgs false
set_option linter.unusedVariables false
namespace Go.Proofs.YtkflggjdlflndaaGreat
open Go Go.Ab
structure InsOk (m : Md1) (c : Cd1) (i : In1) : Prop where
  lo : 1 ≤ i.op
  hi : i.op ≤ 18
  vars : VarsIn c i
  args : i.op = 15 → ∀ a, a ∈ i.args → inV c a = true
  call : i.op = 15 → callP m c i = 0
  jump : i.op = 16 → lineIn c i.to = true
  branch : i.op = 17 → lineIn c i.to = true ∧ lineIn c i.els = true
  ret : i.op = 18 → varT c i.a = c.ret.t
  plain : i.op ≤ 14 → plainP m c i = 0
theorem ins_parts {m : Md1} {c : Cd1} {i : In1} (h : instrP m c i = 0) : InsOk m c i := by
  unfold instrP at h
  split at h
  · cases h
  · rename_i h1
    split at h
    · cases h
    · rename_i h2
      have hu : (usesP i).all (inV c) = true := by simpa using h2
      have hlo : 1 ≤ i.op := by omega
      have hhi : i.op ≤ 18 := by omega
      by_cases c15 : i.op = 15
      · rw [if_pos c15] at h
        exact ⟨hlo, hhi, uses_vars hu, fun _ => uses_args c15 hu, fun _ => h, fun e => by omega, fun e => by omega, fun e => by omega, fun e => by omega⟩
      · rw [if_neg c15] at h
        by_cases c16 : i.op = 16
        · rw [if_pos c16] at h
          exact ⟨hlo, hhi, uses_vars hu, fun e => by omega, fun e => by omega, fun _ => unl_zero (by decide) h, fun e => by omega, fun e => by omega, fun e => by omega⟩
        · rw [if_neg c16] at h
          by_cases c17 : i.op = 17
          · rw [if_pos c17] at h
            split at h
            · cases h
            · rename_i hb
              refine ⟨hlo, hhi, uses_vars hu, fun e => by omega, fun e => by omega, fun e => by omega, fun _ => ?_, fun e => by omega, fun e => by omega⟩
              cases q1 : lineIn c i.to <;> cases q2 : lineIn c i.els <;> simp_all
          · rw [if_neg c17] at h
            by_cases c18 : i.op = 18
            · rw [if_pos c18] at h
              exact ⟨hlo, hhi, uses_vars hu, fun e => by omega, fun e => by omega, fun e => by omega, fun e => by omega, fun _ => by simpa using unl_zero (by decide) h, fun e => by omega⟩
            · rw [if_neg c18] at h
              exact ⟨hlo, hhi, uses_vars hu, fun e => by omega, fun e => by omega, fun e => by omega, fun e => by omega, fun e => by omega, fun _ => h⟩
theorem nums_zero {c : Cd1} {l : List Int} (h : numsP c l = 0) : ∀ v, v ∈ l → (varT c v).ptr = false := by
  have := unl_zero (by decide) h
  intro v hv
  have := List.all_eq_true.1 this v hv
  simpa using this
theorem signed_zero {f : Int} {s : List UInt8} {l : List (List UInt8)} (h : signedP f s l = 0) : f = 0 := by
  unfold signedP at h
  split at h
  · assumption
  · contradiction
/-- What an Op that makes a number, or takes one, writes is a number's. -/
theorem num_dst {m : Md1} {c : Cd1} {i : In1} (h : plainP m c i = 0) (ho : i.op = 1 ∨ i.op = 5 ∨ i.op = 4 ∨ i.op = 14 ∨ i.op = 3) : (varT c i.d).ptr = false := by
  unfold plainP at h
  rcases ho with ho | ho | ho | ho | ho
  · rw [if_pos (.inl ho)] at h; exact nums_zero h _ (by simp)
  · rw [if_pos (.inr ho)] at h; exact nums_zero h _ (by simp)
  · rw [if_neg (by omega), if_neg (by omega), if_pos ho] at h; exact nums_zero (signed_zero h) _ (by simp)
  · rw [if_neg (by omega), if_neg (by omega), if_neg (by omega), if_neg (by omega), if_neg (by omega), if_neg (by omega), if_pos ho] at h
    have := unl_zero (by decide) (signed_zero h)
    simp only [Bool.and_eq_true, Bool.not_eq_true'] at this
    exact this.1
  · rw [if_neg (by omega), if_pos ho] at h; exact nums_zero h _ (by simp)
/-- The variables of the frame on top. -/
structure Vk (s : Mc) (V : Nat → List Ty1) (c : Cd1) (vk : Nat) (l : List Vl) : Prop where
  at_ : s.reg[vk]? = some (.vs l)
  ty : V vk = c.vars.map (·.t)
  len : l.length = c.vars.length
theorem Vk.pl {s : Mc} {V : Nat → List Ty1} {c : Cd1} {vk : Nat} {l : List Vl} (h : Vk s V c vk l) {x : Int} (hx : inV c x = true) : Pl s.reg vk l x (nthV l x) := by
  have h' := inV_iff.1 hx
  have := h.len
  exact ⟨h.at_, h'.1, by omega, by unfold nthV; rw [List.getElem?_eq_getElem (by omega)]; rfl⟩
theorem Vk.t {s : Mc} {V : Nat → List Ty1} {c : Cd1} {vk : Nat} {l : List Vl} (h : Vk s V c vk l) {x : Int} (hx : inV c x = true) : (V vk)[x.toNat]? = some (varT c x) := by rw [h.ty]; exact tys_at hx
theorem Vk.val {s : Mc} {T : Nat → Option (List UInt8)} {V : Nat → List Ty1} {c : Cd1} {vk : Nat} {l : List Vl} (h : Vk s V c vk l) (w : Wf s T V) {x : Int} (hx : inV c x = true) : vOk s.reg T (varT c x) (nthV l x) := (w.heap.vs vk l h.at_).2 _ _ _ (h.t hx) (h.pl hx).val
theorem Vk.num {s : Mc} {V : Nat → List Ty1} {c : Cd1} {vk : Nat} {l : List Vl} (h : Vk s V c vk l) {i : In1} (hv : VarsIn c i) : NumOk s.reg i vk l := ⟨fun e => ⟨_, h.pl (hv.d e)⟩, fun e => ⟨_, h.pl (hv.a e)⟩, fun e => ⟨_, h.pl (hv.b e)⟩⟩
theorem get_wf {s : Mc} {T : Nat → Option (List UInt8)} {V : Nat → List Ty1} (w : Wf s T V) : Wf (getP s).2 T V := by
  unfold getP
  split
  · exact w
  · exact ⟨w.right, w.heap, w.chain, w.cells, w.go⟩
/-- Numbers keep it right. -/
theorem num_wf {s : Mc} {T : Nat → Option (List UInt8)} {V : Nat → List Ty1} (w : Wf s T V) {c : Cd1} {vk : Nat} {l : List Vl} (hv : Vk s V c vk l) {i : In1} (hi : InsOk s.m c i) (ho : i.op ≤ 14) : Wf (numbersP s i vk l).2 T V := by
  unfold numbersP
  have hp := hi.plain ho
  by_cases c1 : i.op = 1
  · rw [if_pos c1]
    have hd := hi.vars.d (by rw [c1]; rfl)
    exact wf_put w hv.at_ (hv.t hd) (vOk_num _ _ (num_dst hp (.inl c1)) _)
  rw [if_neg c1]
  by_cases c4 : i.op = 4
  · rw [if_pos c4]
    have hd := hi.vars.d (by rw [c4]; rfl)
    exact wf_put w hv.at_ (hv.t hd) (vOk_num _ _ (num_dst hp (.inr (.inr (.inl c4)))) _)
  rw [if_neg c4]
  by_cases c5 : i.op = 5
  · rw [if_pos c5]
    have hd := hi.vars.d (by rw [c5]; rfl)
    have hgr : (getP s).2.reg = s.reg := by unfold getP; split <;> rfl
    exact wf_put (get_wf w) (by rw [hgr]; exact hv.at_) (hv.t hd) (vOk_num _ _ (num_dst hp (.inr (.inl c5))) _)
  rw [if_neg c5]
  by_cases c6 : i.op = 6
  · rw [if_pos c6]
    exact ⟨w.right, w.heap, w.chain, w.cells, w.go⟩
  rw [if_neg c6]
  by_cases c14 : i.op = 14
  · rw [if_pos c14]
    have hd := hi.vars.d (by rw [c14]; rfl)
    exact wf_put w hv.at_ (hv.t hd) (vOk_num _ _ (num_dst hp (.inr (.inr (.inr (.inl c14))))) _)
  rw [if_neg c14]
  exact w
end Go.Proofs.YtkflggjdlflndaaGreat
