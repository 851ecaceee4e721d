/- The machine goes right: types of what it holds. Conditions: none. -/
import Derived.Test.YtkflggjdlflndaaGreatZB
set_option linter.unusedSimpArgs false
set_option linter.unusedVariables false
namespace Go.Proofs.YtkflggjdlflndaaGreat
open Go Go.Ab
/-- A value of such a type. -/
def vOk (R : List Blk) (T : Nat → Option (List UInt8)) (t : Ty1) (v : Vl) : Prop := t.ptr = true → ∀ k, v.2 = some k → isCe R[k]? ∧ T k = some t.to
def vsOk (R : List Blk) (T : Nat → Option (List UInt8)) (ts : List Ty1) (l : List Vl) : Prop := l.length = ts.length ∧ ∀ (i : Nat) (t : Ty1) (v : Vl), ts[i]? = some t → l[i]? = some v → vOk R T t v
def fieldTys (m : Md1) (name : List UInt8) : List Ty1 := (structAt m name).fields.map (·.t)
structure Heap (m : Md1) (R : List Blk) (T : Nat → Option (List UInt8)) (V : Nat → List Ty1) : Prop where
  vs : ∀ (j : Nat) (l : List Vl), R[j]? = some (.vs l) → vsOk R T (V j) l
  ce : ∀ (k : Nat) (al : Bool) (fk fn : Nat) (name : List UInt8), R[k]? = some (.ce al fk fn) → T k = some name → (∃ fl, R[fk]? = some (.vs fl) ∧ fl.length = fn) ∧ V fk = fieldTys m name
/-- Blocks go on: frames below stay, values keep their number, cells stay cells. -/
structure Mv (R R' : List Blk) (b : Nat) : Prop where
  fr : ∀ (j : Nat) (c : Cd1) (pc : Int) (vk vn : Nat) (up : Option Nat) (tv : Int), j < b → R[j]? = some (.fr c pc vk vn up tv) → R'[j]? = some (.fr c pc vk vn up tv)
  vs : ∀ (j : Nat) (l : List Vl), R[j]? = some (.vs l) → ∃ l', R'[j]? = some (.vs l') ∧ l'.length = l.length
  ce : ∀ (j : Nat) (al : Bool) (fk fn : Nat), R[j]? = some (.ce al fk fn) → ∃ al', R'[j]? = some (.ce al' fk fn)
theorem Mv.trans {R R' R'' : List Blk} {b : Nat} (h : Mv R R' b) (g : Mv R' R'' b) : Mv R R'' b where
  fr j c pc vk vn up tv hj h1 := g.fr j c pc vk vn up tv hj (h.fr j c pc vk vn up tv hj h1)
  vs j l h1 := by
    obtain ⟨l', h2, h3⟩ := h.vs j l h1
    obtain ⟨l'', h4, h5⟩ := g.vs j l' h2
    exact ⟨l'', h4, h5.trans h3⟩
  ce j al fk fn h1 := by
    obtain ⟨al', h2⟩ := h.ce j al fk fn h1
    exact g.ce j al' fk fn h2
theorem Mv.low {R R' : List Blk} {b c : Nat} (h : Mv R R' b) (hc : c ≤ b) : Mv R R' c := ⟨fun j c' pc vk vn up tv hj => h.fr j c' pc vk vn up tv (by omega), h.vs, h.ce⟩
theorem Mv.refl (R : List Blk) (b : Nat) : Mv R R b := ⟨fun _ _ _ _ _ _ _ _ h => h, fun j l h => ⟨l, h, rfl⟩, fun j al fk fn h => ⟨al, h⟩⟩
theorem set_cases {R : List Blk} {k j : Nat} {x y : Blk} (h : (R.set k x)[j]? = some y) : (j = k ∧ y = x) ∨ (j ≠ k ∧ R[j]? = some y) := by
  by_cases e : j = k
  · subst e
    rw [List.getElem?_set] at h
    simp only [if_true] at h
    split at h
    · cases h; exact .inl ⟨rfl, rfl⟩
    · cases h
  · rw [List.getElem?_set_ne (Ne.symm e)] at h
    exact .inr ⟨e, h⟩
theorem set_ne {R : List Blk} {k j : Nat} {x y : Blk} (h : R[j]? = some y) (e : j ≠ k) : (R.set k x)[j]? = some y := by rw [List.getElem?_set_ne (Ne.symm e)]; exact h
theorem mv_vs {R : List Blk} {j : Nat} {l l' : List Vl} (h : R[j]? = some (.vs l)) (hl : l'.length = l.length) (b : Nat) : Mv R (R.set j (.vs l')) b where
  fr k c pc vk vn up tv _ h1 := set_ne h1 (fun e => by subst e; rw [h] at h1; cases h1)
  vs k q h1 := by
    by_cases e : k = j
    · subst e
      rw [h] at h1
      cases h1
      exact ⟨l', set_at h _, hl⟩
    · exact ⟨q, set_ne h1 e, rfl⟩
  ce k al fk fn h1 := ⟨al, set_ne h1 (fun e => by subst e; rw [h] at h1; cases h1)⟩
theorem mv_fr {R : List Blk} {k : Nat} {c : Cd1} {pc : Int} {vk vn : Nat} {up : Option Nat} {tv : Int} (h : R[k]? = some (.fr c pc vk vn up tv)) (q : Int) : Mv R (R.set k (.fr c q vk vn up tv)) k where
  fr j c pc vk vn up tv hj h1 := set_ne h1 (by omega)
  vs j l h1 := ⟨l, set_ne h1 (fun e => by subst e; rw [h] at h1; cases h1), rfl⟩
  ce j al fk fn h1 := ⟨al, set_ne h1 (fun e => by subst e; rw [h] at h1; cases h1)⟩
theorem mv_ce {R : List Blk} {k : Nat} {al : Bool} {fk fn : Nat} (h : R[k]? = some (.ce al fk fn)) (al' : Bool) (b : Nat) : Mv R (R.set k (.ce al' fk fn)) b where
  fr j c pc vk vn up tv _ h1 := set_ne h1 (fun e => by subst e; rw [h] at h1; cases h1)
  vs j l h1 := ⟨l, set_ne h1 (fun e => by subst e; rw [h] at h1; cases h1), rfl⟩
  ce j a f n h1 := by
    by_cases e : j = k
    · subst e
      rw [h] at h1
      cases h1
      exact ⟨al', set_at h _⟩
    · exact ⟨a, set_ne h1 e⟩
theorem app_lt {R : List Blk} {j : Nat} {x : Blk} (h : R[j]? = some x) (X : List Blk) : (R ++ X)[j]? = some x := by rw [List.getElem?_append_left (List.getElem?_eq_some_iff.1 h).1]; exact h
theorem mv_app (R X : List Blk) (b : Nat) : Mv R (R ++ X) b := ⟨fun _ _ _ _ _ _ _ _ h => app_lt h X, fun j l h => ⟨l, app_lt h X, rfl⟩, fun j al fk fn h => ⟨al, app_lt h X⟩⟩
theorem Mv.isCe {R R' : List Blk} {b k : Nat} (h : Mv R R' b) (hk : isCe R[k]?) : isCe R'[k]? := by
  cases hb : R[k]? with
  | none => rw [hb] at hk; exact hk.elim
  | some x =>
    rw [hb] at hk
    cases x with
    | ce al fk fn =>
      obtain ⟨al', h2⟩ := h.ce k al fk fn hb
      rw [h2]; trivial
    | _ => exact hk.elim
theorem vOk.mv {R R' : List Blk} {b : Nat} {T T' : Nat → Option (List UInt8)} {t : Ty1} {v : Vl} (h : vOk R T t v) (hm : Mv R R' b) (hT : ∀ k, isCe R[k]? → T' k = T k) : vOk R' T' t v := fun hp k hk => by
  obtain ⟨h1, h2⟩ := h hp k hk
  exact ⟨hm.isCe h1, (hT k h1).trans h2⟩
theorem vsOk.mv {R R' : List Blk} {b : Nat} {T T' : Nat → Option (List UInt8)} {ts : List Ty1} {l : List Vl} (h : vsOk R T ts l) (hm : Mv R R' b) (hT : ∀ k, isCe R[k]? → T' k = T k) : vsOk R' T' ts l := ⟨h.1, fun i t v h1 h2 => (h.2 i t v h1 h2).mv hm hT⟩
/-- A value is put. -/
theorem Heap.put {m : Md1} {R : List Blk} {T : Nat → Option (List UInt8)} {V : Nat → List Ty1} (h : Heap m R T V) {vk : Nat} {l : List Vl} (hv : R[vk]? = some (.vs l)) {d : Nat} {t : Ty1} (ht : (V vk)[d]? = some t) {v : Vl} (hok : vOk R T t v) : Heap m (R.set vk (.vs (l.set d v))) T V := by
  have hm := mv_vs hv (l' := l.set d v) (by simp) 0
  refine ⟨fun j q hj => ?_, fun k al fk fn nm hk hn => ?_⟩
  · rcases set_cases hj with ⟨rfl, e⟩ | ⟨hne, hj⟩
    · cases e
      have h0 := h.vs j l hv
      refine ⟨by rw [List.length_set]; exact h0.1, fun i t' v' h1 h2 => ?_⟩
      rw [List.getElem?_set] at h2
      split at h2
      · rename_i e
        subst e
        split at h2
        · cases h2
          rw [ht] at h1
          cases h1
          exact hok.mv hm (fun _ _ => rfl)
        · cases h2
      · exact (h0.2 i t' v' h1 h2).mv hm (fun _ _ => rfl)
    · exact (h.vs j q hj).mv hm (fun _ _ => rfl)
  · rcases set_cases hk with ⟨rfl, e⟩ | ⟨hne, hk⟩
    · cases e
    · obtain ⟨⟨fl, h1, h2⟩, h3⟩ := h.ce k al fk fn nm hk hn
      obtain ⟨fl', h4, h5⟩ := hm.vs fk fl h1
      exact ⟨⟨fl', h4, h5.trans h2⟩, h3⟩
theorem Heap.fr {m : Md1} {R : List Blk} {T : Nat → Option (List UInt8)} {V : Nat → List Ty1} (h : Heap m R T V) {k : Nat} {c : Cd1} {pc : Int} {vk vn : Nat} {up : Option Nat} {tv : Int} (hk : R[k]? = some (.fr c pc vk vn up tv)) (q : Int) : Heap m (R.set k (.fr c q vk vn up tv)) T V := by
  have hm := mv_fr hk q
  refine ⟨fun j l hj => ?_, fun j al fk fn nm hj hn => ?_⟩
  · rcases set_cases hj with ⟨rfl, e⟩ | ⟨hne, hj⟩
    · cases e
    · exact (h.vs j l hj).mv hm (fun _ _ => rfl)
  · rcases set_cases hj with ⟨rfl, e⟩ | ⟨hne, hj⟩
    · cases e
    · obtain ⟨⟨fl, h1, h2⟩, h3⟩ := h.ce j al fk fn nm hj hn
      obtain ⟨fl', h4, h5⟩ := hm.vs fk fl h1
      exact ⟨⟨fl', h4, h5.trans h2⟩, h3⟩
theorem Heap.free {m : Md1} {R : List Blk} {T : Nat → Option (List UInt8)} {V : Nat → List Ty1} (h : Heap m R T V) {k : Nat} {al : Bool} {fk fn : Nat} (hk : R[k]? = some (.ce al fk fn)) (al' : Bool) : Heap m (R.set k (.ce al' fk fn)) T V := by
  have hm := mv_ce hk al' 0
  refine ⟨fun j l hj => ?_, fun j a f n nm hj hn => ?_⟩
  · rcases set_cases hj with ⟨rfl, e⟩ | ⟨hne, hj⟩
    · cases e
    · exact (h.vs j l hj).mv hm (fun _ _ => rfl)
  · have hold : ∃ a0, R[j]? = some (.ce a0 f n) := by
      rcases set_cases hj with ⟨rfl, e⟩ | ⟨hne, hj⟩
      · cases e; exact ⟨al, hk⟩
      · exact ⟨a, hj⟩
    obtain ⟨a0, hj0⟩ := hold
    obtain ⟨⟨fl, h1, h2⟩, h3⟩ := h.ce j a0 f n nm hj0 hn
    obtain ⟨fl', h4, h5⟩ := hm.vs f fl h1
    exact ⟨⟨fl', h4, h5.trans h2⟩, h3⟩
/-- A frame in order. -/
structure FrOk (m : Md1) (R : List Blk) (V : Nat → List Ty1) (k : Nat) (c : Cd1) (pc : Int) (vk vn : Nat) (up : Option Nat) (tv : Int) : Prop where
  fr : R[k]? = some (.fr c pc vk vn up tv)
  vs : ∃ l, R[vk]? = some (.vs l) ∧ l.length = vn
  code : c ∈ m.funcs
  pc0 : 0 ≤ pc
  pc1 : pc < (c.ins.length : Nat)
  vars : V vk = c.vars.map (·.t)
  below : ∀ u, up = some u → u < k ∧ ∃ (c2 : Cd1) (pc2 : Int) (vk2 vn2 : Nat) (up2 : Option Nat) (tv2 : Int), R[u]? = some (.fr c2 pc2 vk2 vn2 up2 tv2) ∧ inV c2 tv = true ∧ varT c2 tv = c.ret.t
inductive Chain (m : Md1) (R : List Blk) (V : Nat → List Ty1) : Option Nat → Prop
  | nil : Chain m R V none
  | cons {k : Nat} {c : Cd1} {pc : Int} {vk vn : Nat} {up : Option Nat} {tv : Int} (h : FrOk m R V k c pc vk vn up tv) (t : Chain m R V up) : Chain m R V (some k)
theorem FrOk.mv {m : Md1} {R R' : List Blk} {V V' : Nat → List Ty1} {k b : Nat} {c : Cd1} {pc : Int} {vk vn : Nat} {up : Option Nat} {tv : Int} (h : FrOk m R V k c pc vk vn up tv) (hm : Mv R R' b) (hk : k < b) (hV : ∀ j l, R[j]? = some (.vs l) → V' j = V j) : FrOk m R' V' k c pc vk vn up tv := by
  obtain ⟨l, h1, h2⟩ := h.vs
  refine ⟨hm.fr k _ _ _ _ _ _ hk h.fr, ?_, h.code, h.pc0, h.pc1, (hV vk l h1).trans h.vars, fun u hu => ?_⟩
  · obtain ⟨l', h3, h4⟩ := hm.vs vk l h1
    exact ⟨l', h3, h4.trans h2⟩
  · obtain ⟨k1, c2, pc2, vk2, vn2, up2, tv2, k2, k3, k4⟩ := h.below u hu
    exact ⟨k1, c2, pc2, vk2, vn2, up2, tv2, hm.fr u _ _ _ _ _ _ (by omega) k2, k3, k4⟩
theorem Chain.mv {m : Md1} {R R' : List Blk} {V V' : Nat → List Ty1} {b : Nat} {o : Option Nat} (h : Chain m R V o) (hm : Mv R R' b) (ho : ∀ k, o = some k → k < b) (hV : ∀ j l, R[j]? = some (.vs l) → V' j = V j) : Chain m R' V' o := by
  induction h with
  | nil => exact .nil
  | cons h t ih =>
    have hk := ho _ rfl
    refine .cons (h.mv hm hk hV) (ih fun u hu => ?_)
    have := (h.below u hu).1
    omega
structure Wf (s : Mc) (T : Nat → Option (List UInt8)) (V : Nat → List Ty1) : Prop where
  right : rightP s.m = 0
  heap : Heap s.m s.reg T V
  chain : Chain s.m s.reg V s.top
  cells : ∀ k, k ∈ s.cells → isCe s.reg[k]?
  go : s.kind = 4 → s.top ≠ none
/-- What is counted is no more than that. -/
structure Cnt (s : Mc) (n : Int) : Prop where
  as0 : 0 ≤ s.asked
  as1 : s.asked ≤ n
  ce1 : (s.cells.length : Int) ≤ n
  ou1 : (s.out.length : Int) ≤ n
end Go.Proofs.YtkflggjdlflndaaGreat
