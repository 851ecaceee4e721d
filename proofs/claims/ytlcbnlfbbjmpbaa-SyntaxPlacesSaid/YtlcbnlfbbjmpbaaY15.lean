/- Each expression of what is parsed stands at its token: plain maths. Conditions: none. -/
import Derived.Test.YtlcbnlfbbjmpbaaY14
set_option linter.unusedSimpArgs false
set_option linter.unusedVariables false
namespace Go.Proofs.Ytlcbnlfbbjmpbaa
open Go Go.Ab
/-- The first token of a place. -/
def atT (ts : List Tok) (p : Po) : Tok := (ts.find? fun t => decide (t.pos.1 = p.line) && decide (t.pos.2 = p.col)).getD Tok.zero
/-- What a token must be for an expression. -/
structure OkAt (t : Tok) (k n : Int) (s o : Str) : Prop where
  k1 : k = 1 → t.kind = 3 ∧ t.num = n
  k2 : k = 2 ∨ k = 9 → t.kind = 1 ∧ t.text = s
  k3 : k = 3 → t.text = [45, 62]
  k4 : k = 4 ∨ k = 5 → t.text = o
  k6 : k = 6 → t.text = [110, 117, 108, 108]
  k7 : k = 7 → t.text = [110, 101, 119]
  k8 : k = 8 → t.text = [103, 101, 116]
mutual
def StE (ts : List Tok) : Ex0 → Prop
  | .mk k n s o ks p => OkAt (atT ts p) k n s o ∧ StEs ts ks
def StEs (ts : List Tok) : List Ex0 → Prop
  | [] => True
  | e :: l => StE ts e ∧ StEs ts l
end
theorem StEs_all {ts : List Tok} : ∀ {l : List Ex0}, StEs ts l ↔ ∀ e, e ∈ l → StE ts e
  | [] => by simp [StEs]
  | e :: l => by simp only [StEs, StEs_all (l := l), List.mem_cons, forall_eq_or_imp]
theorem StE_eq {ts : List Tok} {e : Ex0} : StE ts e ↔ OkAt (atT ts e.pos) e.kind e.n e.name e.op ∧ ∀ x, x ∈ e.kids → StE ts x := by
  cases e with
  | mk k n s o ks p => simp only [StE, StEs_all, Ex0.pos, Ex0.kind, Ex0.n, Ex0.name, Ex0.op, Ex0.kids]
/-- No two tokens stand in one place. -/
def Uniq (ts : List Tok) : Prop := (ts.map (·.pos)).Nodup
/-- What is left of some tokens. -/
structure Nx (ts l : List Tok) : Prop where
  ok : OkT l
  suf : ∃ a, ts = a ++ l
section
variable {ts : List Tok} (hu : Uniq ts)
include hu
theorem Nx.at_ {l : List Tok} (h : Nx ts l) : atT ts (posT l) = hdT l := by
  obtain ⟨t, r, rfl⟩ := h.ok.ne
  obtain ⟨a, e⟩ := h.suf
  show atT ts ⟨t.pos.1, t.pos.2⟩ = t
  unfold atT
  have hf : a.find? (fun t' => decide (t'.pos.1 = t.pos.1) && decide (t'.pos.2 = t.pos.2)) = none := by
    rw [List.find?_eq_none]
    intro x hx hc
    simp only [Bool.and_eq_true, decide_eq_true_eq] at hc
    unfold Uniq at hu
    rw [e, List.map_append, List.map_cons, List.nodup_append] at hu
    exact hu.2.2 x.pos (List.mem_map.2 ⟨x, hx, rfl⟩) t.pos (by simp) (Prod.ext hc.1 hc.2)
  rw [e, List.find?_append, hf]
  simp
omit hu in
theorem Nx.step {l : List Tok} (h : Nx ts l) (hk : (hdT l).kind ≠ 5) : Nx ts l.tail := by
  obtain ⟨t, r, rfl⟩ := h.ok.ne
  obtain ⟨a, e⟩ := h.suf
  exact ⟨h.ok.tail hk, a ++ [t], by rw [e]; simp⟩
omit hu in
theorem Nx.eat {l l' : List Tok} {s : Str} {u : Unit} (h : Nx ts l) (he : eatT s l = .ok (u, l')) : Nx ts l' := by
  obtain ⟨_, _, rfl, hi⟩ := eatT_ok h.ok he
  exact h.step (isT_kind hi)
omit hu in
theorem Nx.name {l l' : List Tok} {t : Tok} (h : Nx ts l) (he : nameT l = .ok (t, l')) : Nx ts l' := by
  obtain ⟨_, _, rfl, _, hk⟩ := nameT_ok h.ok he
  exact h.step (by omega)
omit hu in
/-- A parser of expressions that stand. -/
def StP (ts : List Tok) (P : List Tok → PR Ex0) : Prop := ∀ l, Nx ts l → ∀ e l', P l = .ok (e, l') → StE ts e ∧ Nx ts l'
omit hu in
def StO (ts : List Tok) (P : Option (List Tok → PR Ex0)) : Prop := ∀ E, P = some E → StP ts E
omit hu in
theorem St_argsL {E : List Tok → PR Ex0} (hE : StP ts E) : ∀ n out l, Nx ts l → (∀ e, e ∈ out → StE ts e) → ∀ ks l', argsL E n out l = .ok (ks, l') → (∀ e, e ∈ ks → StE ts e) ∧ Nx ts l' := by
  intro n
  induction n with
  | zero => intro out l _ _ ks l' h; cases h
  | succ n ih =>
    intro out l hl ho ks l' h
    simp only [argsL] at h
    split at h
    · rename_i hi
      cases h
      exact ⟨ho, hl.step (isT_kind hi)⟩
    · obtain ⟨u, l1, h1, h⟩ := PR.thenOk h
      have n1 : Nx ts l1 := by
        split at h1
        · cases h1; exact hl
        · exact hl.eat h1
      obtain ⟨e, l2, h2, h⟩ := PR.thenOk h
      obtain ⟨a1, a2⟩ := hE l1 n1 e l2 h2
      exact ih _ l2 a2 (fun x hx => by
        rcases List.mem_append.1 hx with hx | hx
        · exact ho x hx
        · cases List.mem_singleton.1 hx; exact a1) ks l' h
omit hu in
theorem St_argsT {E : Option (List Tok → PR Ex0)} (hE : StO ts E) {l : List Tok} (hl : Nx ts l) (hk : (hdT l).kind ≠ 5) {ks : List Ex0} {l' : List Tok} (h : argsT E l = .ok (ks, l')) : (∀ e, e ∈ ks → StE ts e) ∧ Nx ts l' := by
  cases E with
  | none => cases h
  | some E => exact St_argsL (hE E rfl) _ _ _ (hl.step hk) (fun e he => by cases he) ks l' h
omit hu in
theorem isT_text {l : List Tok} {s : Str} (h : isT l s = true) : (hdT l).text = s := by
  unfold isT at h
  simp only [Bool.and_eq_true, decide_eq_true_eq] at h
  exact h.2
theorem St_primT {E : Option (List Tok → PR Ex0)} (hE : StO ts E) : StP ts (primT E) := by
  intro l hl e l' h
  have hat := hl.at_ hu
  unfold primT at h
  split at h
  · rename_i hk
    obtain ⟨rfl, rfl, _⟩ := builtT_ok h
    refine ⟨?_, hl.step (by omega)⟩
    simp only [StE, StEs, and_true, hat]
    exact ⟨fun _ => ⟨hk, rfl⟩, by omega, by omega, by omega, by omega, by omega, by omega⟩
  split at h
  · rename_i hk
    have h1 := hl.step (by omega)
    split at h
    · rename_i hp
      obtain ⟨ks, l1, h2, h3⟩ := PR.thenOk h
      obtain ⟨b1, b2⟩ := St_argsT hE h1 (isT_kind hp) h2
      obtain ⟨he, hl', _⟩ := builtT_ok h3
      subst hl' he
      refine ⟨?_, b2⟩
      simp only [StE, StEs_all, hat]
      exact ⟨⟨by omega, fun _ => ⟨hk, rfl⟩, by omega, by omega, by omega, by omega, by omega⟩, b1⟩
    · obtain ⟨rfl, rfl, _⟩ := builtT_ok h
      refine ⟨?_, h1⟩
      simp only [StE, StEs, and_true, hat]
      exact ⟨by omega, fun _ => ⟨hk, rfl⟩, by omega, by omega, by omega, by omega, by omega⟩
  split at h
  · rename_i hi
    obtain ⟨rfl, rfl, _⟩ := builtT_ok h
    refine ⟨?_, hl.step (isT_kind hi)⟩
    simp only [StE, StEs, and_true, hat]
    exact ⟨by omega, by omega, by omega, by omega, fun _ => isT_text hi, by omega, by omega⟩
  split at h
  · rename_i hi
    obtain ⟨t, l1, h2, h3⟩ := PR.thenOk h
    have n1 := (hl.step (isT_kind hi)).name h2
    obtain ⟨he, hl', _⟩ := builtT_ok h3
    subst hl' he
    refine ⟨?_, n1⟩
    simp only [StE, StEs, and_true, hat]
    exact ⟨by omega, by omega, by omega, by omega, by omega, fun _ => isT_text hi, by omega⟩
  split at h
  · rename_i hi
    obtain ⟨_, l1, h2, h3⟩ := PR.thenOk h
    have n1 := (hl.step (isT_kind hi)).eat h2
    obtain ⟨_, l2, h4, h5⟩ := PR.thenOk h3
    have n2 := n1.eat h4
    obtain ⟨he, hl', _⟩ := builtT_ok h5
    subst hl' he
    refine ⟨?_, n2⟩
    simp only [StE, StEs, and_true, hat]
    exact ⟨by omega, by omega, by omega, by omega, by omega, by omega, fun _ => isT_text hi⟩
  split at h
  · rename_i hi
    cases E with
    | none => cases h
    | some E =>
      obtain ⟨e1, l1, h1, h2⟩ := PR.thenOk h
      obtain ⟨b1, b2⟩ := hE E rfl _ (hl.step (isT_kind hi)) e1 l1 h1
      obtain ⟨_, l2, h4, h5⟩ := PR.thenOk h2
      have n2 := b2.eat h4
      cases h5
      exact ⟨b1, n2⟩
  · cases h
theorem St_arrowL : ∀ n e l, Nx ts l → StE ts e → ∀ e' l', arrowL n e l = .ok (e', l') → StE ts e' ∧ Nx ts l' := by
  intro n
  induction n with
  | zero => intro e l hl he e' l' h; cases h; exact ⟨he, hl⟩
  | succ n ih =>
    intro e l hl he e' l' h
    have hat := hl.at_ hu
    simp only [arrowL] at h
    split at h
    · rename_i hi
      obtain ⟨t, l1, h1, h2⟩ := PR.thenOk h
      have n1 := (hl.step (isT_kind hi)).name h1
      obtain ⟨e2, l2, h3, h4⟩ := PR.thenOk h2
      obtain ⟨q1, q2, _⟩ := builtT_ok h3
      subst q1 q2
      refine ih _ _ n1 ?_ e' l' h4
      simp only [StE, StEs, and_true, hat]
      exact ⟨⟨by omega, by omega, fun _ => isT_text hi, by omega, by omega, by omega, by omega⟩, he⟩
    · cases h; exact ⟨he, hl⟩
theorem St_unaryK {U E : Option (List Tok → PR Ex0)} (hU : StO ts U) (hE : StO ts E) : StP ts (unaryK U E) := by
  intro l hl e l' h
  have hat := hl.at_ hu
  unfold unaryK at h
  split at h
  · rename_i hi
    cases U with
    | none => cases h
    | some U =>
      obtain ⟨x, l1, h1, h2⟩ := PR.thenOk h
      obtain ⟨b1, b2⟩ := hU U rfl _ (hl.step (anyT_kind hi)) x l1 h1
      obtain ⟨q1, q2, _⟩ := builtT_ok h2
      subst q1 q2
      refine ⟨?_, b2⟩
      simp only [StE, StEs, and_true, hat]
      exact ⟨⟨by omega, by omega, by omega, fun _ => rfl, by omega, by omega, by omega⟩, b1⟩
  · obtain ⟨x, l1, h1, h2⟩ := PR.thenOk h
    obtain ⟨b1, b2⟩ := St_primT hu hE l hl x l1 h1
    exact St_arrowL hu _ _ _ b2 b1 e l' h2
theorem St_chainL {P : List Tok → PR Ex0} (hP : StP ts P) (ops : List Str) : ∀ n e l, Nx ts l → StE ts e → ∀ e' l', chainL P ops n e l = .ok (e', l') → StE ts e' ∧ Nx ts l' := by
  intro n
  induction n with
  | zero => intro e l hl he e' l' h; cases h; exact ⟨he, hl⟩
  | succ n ih =>
    intro e l hl he e' l' h
    have hat := hl.at_ hu
    simp only [chainL] at h
    split at h
    · rename_i hi
      obtain ⟨x, l1, h1, h2⟩ := PR.thenOk h
      obtain ⟨b1, b2⟩ := hP _ (hl.step (anyT_kind hi)) x l1 h1
      obtain ⟨e2, l2, h3, h4⟩ := PR.thenOk h2
      obtain ⟨q1, q2, _⟩ := builtT_ok h3
      subst q1 q2
      refine ih _ _ b2 ?_ e' l' h4
      simp only [StE, StEs, and_true, hat]
      exact ⟨⟨by omega, by omega, by omega, fun _ => rfl, by omega, by omega, by omega⟩, he, b1⟩
    · cases h; exact ⟨he, hl⟩
theorem St_leftT {P : List Tok → PR Ex0} (hP : StP ts P) (ops : List Str) : StP ts (leftT P ops) := by
  intro l hl e l' h
  obtain ⟨x, l1, h1, h2⟩ := PR.thenOk h
  obtain ⟨b1, b2⟩ := hP l hl x l1 h1
  exact St_chainL hu hP ops _ _ _ b2 b1 e l' h2
theorem St_exprK {U : List Tok → PR Ex0} (hU : StP ts U) : StP ts (exprK U) := by
  intro l hl e l' h
  have hS : StP ts (sumK U) := St_leftT hu (St_leftT hu hU opsM) opsA
  obtain ⟨x, l1, h1, h2⟩ := PR.thenOk h
  obtain ⟨b1, b2⟩ := hS l hl x l1 h1
  have hat := b2.at_ hu
  split at h2
  · rename_i hi
    obtain ⟨y, l2, h3, h4⟩ := PR.thenOk h2
    obtain ⟨c1, c2⟩ := hS _ (b2.step (anyT_kind hi)) y l2 h3
    obtain ⟨q1, q2, _⟩ := builtT_ok h4
    subst q1 q2
    refine ⟨?_, c2⟩
    simp only [StE, StEs, and_true, hat]
    exact ⟨⟨by omega, by omega, by omega, fun _ => rfl, by omega, by omega, by omega⟩, b1, c1⟩
  · cases h2; exact ⟨b1, b2⟩
theorem St_unaryT : ∀ m : Nat, StP ts (unaryT m)
  | 0 => St_unaryK hu (fun E h => by cases h) (fun E h => by cases h)
  | m + 1 => St_unaryK hu (fun E h => by cases h; exact St_unaryT m) (fun E h => by cases h; exact St_exprK hu (St_unaryT m))
theorem St_exprT (m : Nat) : StP ts (exprT m) := St_exprK hu (St_unaryT hu m)
theorem St_lowE : ∀ m : Nat, StO ts (lowE m)
  | 0 => fun E h => by cases h
  | m + 1 => fun E h => by cases h; exact St_exprT hu m
omit hu in
/-- An expression that stands, of bounded size. -/
def QE (ts : List Tok) (e : Ex0) : Prop := StE ts e ∧ cntE e ≤ 1000000
theorem Q_exprT (m : Nat) {l : List Tok} (hl : Nx ts l) {e : Ex0} {l' : List Tok} (h : exprT m l = .ok (e, l')) : QE ts e ∧ Nx ts l' := by
  obtain ⟨a1, a2⟩ := St_exprT hu m l hl e l' h
  obtain ⟨_, b2, _⟩ := exprT_ok m l hl.ok e l' h
  have := hl.ok.few
  exact ⟨⟨a1, by omega⟩, a2⟩
end
mutual
def StS (ts : List Tok) : St0 → Prop
  | .mk _ _ _ e b l _ => (e.length ≤ 1000000 ∧ b.length ≤ 1000000 ∧ l.length ≤ 1000000) ∧ (∀ x, x ∈ e → QE ts x) ∧ StSs ts b ∧ StSs ts l
def StSs (ts : List Tok) : List St0 → Prop
  | [] => True
  | s :: l => StS ts s ∧ StSs ts l
end
theorem StSs_all {ts : List Tok} : ∀ {l : List St0}, StSs ts l ↔ ∀ s, s ∈ l → StS ts s
  | [] => by simp [StSs]
  | e :: l => by simp only [StSs, StSs_all (l := l), List.mem_cons, forall_eq_or_imp]
theorem StS_eq {ts : List Tok} {s : St0} : StS ts s ↔ (s.e.length ≤ 1000000 ∧ s.body.length ≤ 1000000 ∧ s.els.length ≤ 1000000) ∧ (∀ x, x ∈ s.e → QE ts x) ∧ (∀ x, x ∈ s.body → StS ts x) ∧ ∀ x, x ∈ s.els → StS ts x := by
  cases s with
  | mk k t n e b l p => simp only [StS, StSs_all, St0.e, St0.body, St0.els]
section
variable {ts : List Tok} (hu : Uniq ts)
include hu
omit hu in
theorem St_typeT {l : List Tok} (hl : Nx ts l) {t : Tp} {l' : List Tok} (h : typeT l = .ok (t, l')) : Nx ts l' := by
  unfold typeT at h
  split at h
  · rename_i hi; cases h; exact hl.step (isT_kind hi)
  · obtain ⟨n, l1, h1, h2⟩ := PR.thenOk h
    obtain ⟨u, l2, h3, h4⟩ := PR.thenOk h2
    have := (hl.name h1).eat h3
    cases h4
    exact this
omit hu in
theorem St_fieldT {l : List Tok} (hl : Nx ts l) {t : Fl0} {l' : List Tok} (h : fieldT l = .ok (t, l')) : Nx ts l' := by
  obtain ⟨t, l1, h1, h2⟩ := PR.thenOk h
  obtain ⟨u, l2, h3, h4⟩ := PR.thenOk h2
  have := (St_typeT hl h1).name h3
  cases h4
  exact this
omit hu in
def StB (ts : List Tok) (P : List Tok → PR (List St0)) : Prop := ∀ l, Nx ts l → ∀ ss l', P l = .ok (ss, l') → ((∀ s, s ∈ ss → StS ts s) ∧ ss.length ≤ 1000000) ∧ Nx ts l'
omit hu in
def StT (ts : List Tok) (P : List Tok → PR St0) : Prop := ∀ l, Nx ts l → ∀ s l', P l = .ok (s, l') → StS ts s ∧ Nx ts l'
theorem St_branchT {m : Nat} {B : List Tok → PR (List St0)} (hB : StB ts B) (k : Int) (p : Po) : StT ts (branchT (exprT m) B k p) := by
  intro l hl s l' h
  obtain ⟨u, l1, h1, h⟩ := PR.thenOk h
  have n1 := hl.eat h1
  obtain ⟨e, l2, h2, h⟩ := PR.thenOk h
  obtain ⟨a1, n2⟩ := Q_exprT hu m n1 h2
  obtain ⟨u3, l3, h3, h⟩ := PR.thenOk h
  have n3 := n2.eat h3
  obtain ⟨b, l4, h4, h⟩ := PR.thenOk h
  obtain ⟨b1, n4⟩ := hB l3 n3 b l4 h4
  have hq : ∀ x, x ∈ [e] → QE ts x := fun x hx => by cases List.mem_singleton.1 hx; exact a1
  split at h
  · rename_i hi
    obtain ⟨c, l5, h5, h⟩ := PR.thenOk h
    obtain ⟨c1, n5⟩ := hB _ (n4.step (isT_kind hi.2)) c l5 h5
    cases h
    exact ⟨StS_eq.2 ⟨⟨Nat.le_of_ble_eq_true rfl, b1.2, c1.2⟩, hq, b1.1, c1.1⟩, n5⟩
  · cases h
    exact ⟨StS_eq.2 ⟨⟨Nat.le_of_ble_eq_true rfl, b1.2, Nat.zero_le _⟩, hq, b1.1, fun x hx => (by cases hx)⟩, n4⟩
theorem St_targetL : ∀ n k nm e last l, Nx ts l → (StE ts e ∧ cntE e + l.length ≤ 1000000) → (k = 3 → (atT ts last).text = [45, 62]) → ∀ x l', targetL n k nm e last l = .ok (x, l') → StE ts x.2.2 ∧ cntE x.2.2 + l'.length ≤ 1000000 ∧ Nx ts l' := by
  intro n
  induction n with
  | zero => intro k nm e last l hl he hk x l' h; cases h; exact ⟨he.1, he.2, hl⟩
  | succ n ih =>
    intro k nm e last l hl he hk x l' h
    have hat := hl.at_ hu
    simp only [targetL] at h
    split at h
    · rename_i hi
      have n1 := hl.step (isT_kind hi)
      obtain ⟨_, hlen⟩ := hl.ok.step (isT_kind hi)
      obtain ⟨t, l1, h1, h2⟩ := PR.thenOk h
      have n2 := n1.name h1
      obtain ⟨_, hlen2, _⟩ := nameT_ok n1.ok h1
      obtain ⟨e2, l2, h3, h4⟩ := PR.thenOk h2
      have hq : l2 = l1 ∧ StE ts e2 ∧ cntE e2 ≤ cntE e + 1 := by
        split at h3
        · rename_i hk3
          obtain ⟨q1, q2, _⟩ := builtT_ok h3
          subst q1 q2
          refine ⟨rfl, ?_, by simp only [cntE, cntEs]; omega⟩
          simp only [StE, StEs, and_true]
          exact ⟨⟨by omega, by omega, fun _ => hk hk3, by omega, by omega, by omega, by omega⟩, he.1⟩
        · cases h3; exact ⟨rfl, he.1, by omega⟩
      obtain ⟨rfl, q2, q3⟩ := hq
      exact ih _ _ _ _ _ n2 ⟨q2, by omega⟩ (fun _ => by rw [hat]; exact isT_text hi) x l' h4
    · cases h; exact ⟨he.1, he.2, hl⟩
theorem St_targetT {m : Nat} {first : Tok} {l0 : List Tok} (p : Po) (h0 : Nx ts l0) (hk : (hdT l0).kind = 1) {s : St0} {l' : List Tok} (h : targetT (exprT m) (hdT l0) p l0.tail = .ok (s, l')) : StS ts s ∧ Nx ts l' := by
  have hat := h0.at_ hu
  have hl := h0.step (by omega)
  obtain ⟨_, hlen⟩ := h0.ok.step (by omega)
  have hfew := h0.ok.few
  obtain ⟨x, l1, h1, h⟩ := PR.thenOk h
  have he : StE ts (.mk 2 0 (hdT l0).text [] [] ⟨(hdT l0).pos.1, (hdT l0).pos.2⟩) := by
    simp only [StE, StEs, and_true]
    unfold posT at hat
    rw [hat]
    exact ⟨by omega, fun _ => ⟨hk, rfl⟩, by omega, by omega, by omega, by omega, by omega⟩
  obtain ⟨a1, a2, n1⟩ := St_targetL hu _ _ _ _ _ _ hl ⟨he, by rw [cnt_leaf]; omega⟩ (by omega) x l1 h1
  obtain ⟨u, l2, h2, h⟩ := PR.thenOk h
  have n2 := n1.eat h2
  obtain ⟨e, l3, h3, h⟩ := PR.thenOk h
  obtain ⟨b1, n3⟩ := Q_exprT hu m n2 h3
  cases h
  refine ⟨StS_eq.2 ⟨⟨?_, Nat.zero_le _, Nat.zero_le _⟩, ?_, fun x hx => (by cases hx), fun x hx => (by cases hx)⟩, n3⟩
  · simp only [St0.e]; split <;> simp
  · simp only [St0.e]
    split
    · intro y hy
      rcases List.mem_cons.1 hy with rfl | hy
      · exact ⟨a1, by omega⟩
      · cases List.mem_singleton.1 hy; exact b1
    · intro y hy
      cases List.mem_singleton.1 hy; exact b1
theorem St_plainT {m : Nat} : StT ts (plainT (exprT m) (argsT (lowE m))) := by
  intro l hl s l' h
  have hat := hl.at_ hu
  have nil0 : ∀ {x : St0}, x ∈ ([] : List St0) → StS ts x := fun hx => by cases hx
  have one : ∀ {k : Int} {t : Tp} {nm : Str} {e : Ex0} {p : Po}, QE ts e → StS ts (.mk k t nm [e] [] [] p) := fun hq => StS_eq.2 ⟨⟨Nat.le_of_ble_eq_true rfl, Nat.zero_le _, Nat.zero_le _⟩, fun x hx => by cases List.mem_singleton.1 hx; exact hq, fun x hx => (by cases hx), fun x hx => (by cases hx)⟩
  have none : ∀ {k : Int} {t : Tp} {nm : Str} {p : Po}, StS ts (.mk k t nm [] [] [] p) := StS_eq.2 ⟨⟨Nat.zero_le _, Nat.zero_le _, Nat.zero_le _⟩, fun x hx => (by cases hx), fun x hx => (by cases hx), fun x hx => (by cases hx)⟩
  unfold plainT at h
  split at h
  · rename_i hi; cases h; exact ⟨none, hl.step (isT_kind hi)⟩
  split at h
  · rename_i hi; cases h; exact ⟨none, hl.step (isT_kind hi)⟩
  split at h
  · rename_i hi
    obtain ⟨e, l1, h3, h⟩ := PR.thenOk h
    obtain ⟨a1, n1⟩ := Q_exprT hu m (hl.step (isT_kind hi)) h3
    cases h
    exact ⟨one a1, n1⟩
  split at h
  · rename_i hi
    obtain ⟨u, l1, h3, h⟩ := PR.thenOk h
    obtain ⟨t, l2, h4, h⟩ := PR.thenOk h
    obtain ⟨u2, l3, h5, h⟩ := PR.thenOk h
    have n3 := (((hl.step (isT_kind hi)).eat h3).name h4).eat h5
    cases h
    exact ⟨none, n3⟩
  split at h
  · rename_i hi
    obtain ⟨u, l1, h3, h⟩ := PR.thenOk h
    obtain ⟨e, l2, h4, h⟩ := PR.thenOk h
    obtain ⟨a1, n2⟩ := Q_exprT hu m ((hl.step (isT_kind hi)).eat h3) h4
    obtain ⟨u2, l3, h5, h⟩ := PR.thenOk h
    have n3 := n2.eat h5
    cases h
    exact ⟨one a1, n3⟩
  split at h
  · obtain ⟨t, l1, h3, h⟩ := PR.thenOk h
    have n1 := St_typeT hl h3
    obtain ⟨n, l2, h4, h⟩ := PR.thenOk h
    obtain ⟨u2, l3, h5, h⟩ := PR.thenOk h
    obtain ⟨e, l4, h6, h⟩ := PR.thenOk h
    obtain ⟨a1, n4⟩ := Q_exprT hu m ((n1.name h4).eat h5) h6
    cases h
    exact ⟨one a1, n4⟩
  split at h
  · rename_i hk
    have n1 := hl.step (by omega)
    obtain ⟨_, hlen⟩ := hl.ok.step (by omega)
    have hfew := hl.ok.few
    split at h
    · rename_i hp
      obtain ⟨ks, l1, h3, h⟩ := PR.thenOk h
      obtain ⟨a1, n2⟩ := St_argsT (St_lowE hu m) n1 (isT_kind hp) h3
      obtain ⟨_, a2, _⟩ := argsT_ok (lowE_ok m) n1.ok (isT_kind hp) h3
      obtain ⟨e, l2, h4, h5⟩ := PR.thenOk h
      obtain ⟨q1, q2, _⟩ := builtT_ok h4
      subst q1 q2
      cases h5
      refine ⟨one ⟨?_, by simp only [cntE]; omega⟩, n2⟩
      simp only [StE, StEs_all, hat]
      exact ⟨⟨by omega, fun _ => ⟨hk, rfl⟩, by omega, by omega, by omega, by omega, by omega⟩, a1⟩
    · exact St_targetT hu (first := hdT l) _ hl hk h
  · cases h
theorem St_stmtK {m : Nat} {B : List Tok → PR (List St0)} (hB : StB ts B) : StT ts (stmtK (exprT m) (argsT (lowE m)) B) := by
  intro l hl s l' h
  unfold stmtK at h
  split at h
  · rename_i hi
    exact St_branchT hu hB _ _ _ (hl.step (isT_kind hi)) s l' h
  split at h
  · rename_i hi
    exact St_branchT hu hB _ _ _ (hl.step (isT_kind hi)) s l' h
  · obtain ⟨s1, l1, h1, h⟩ := PR.thenOk h
    obtain ⟨a1, n1⟩ := St_plainT hu l hl s1 l1 h1
    obtain ⟨u, l2, h2, h⟩ := PR.thenOk h
    have n2 := n1.eat h2
    cases h
    exact ⟨a1, n2⟩
omit hu in
theorem St_stmtsL {S : List Tok → PR St0} (hS : StT ts S) : ∀ n out l, Nx ts l → (∀ s, s ∈ out → StS ts s) → ∀ ss l', stmtsL S n out l = .ok (ss, l') → (∀ s, s ∈ ss → StS ts s) ∧ Nx ts l' := by
  intro n
  induction n with
  | zero => intro out l _ _ ss l' h; cases h
  | succ n ih =>
    intro out l hl ho ss l' h
    simp only [stmtsL] at h
    split at h
    · rename_i hi; cases h; exact ⟨ho, hl.step (isT_kind hi)⟩
    · obtain ⟨s, l1, h1, h2⟩ := PR.thenOk h
      obtain ⟨a1, n1⟩ := hS l hl s l1 h1
      exact ih _ l1 n1 (fun x hx => by
        rcases List.mem_append.1 hx with hx | hx
        · exact ho x hx
        · cases List.mem_singleton.1 hx; exact a1) ss l' h2
omit hu in
theorem St_blockK {m : Nat} {S : Option (List Tok → PR St0)} (hS : ∀ f, S = some f → StT ts f) (hG : GoodN (blockK S)) (hlen : ∀ {l : List Tok}, OkT l → ∀ {ss : List St0} {l' : List Tok}, blockK S l = .ok (ss, l') → ss.length ≤ l.length) : StB ts (blockK S) := by
  intro l hl ss l' h
  have hb := hlen hl.ok h
  have hfew := hl.ok.few
  unfold blockK at h
  split at h
  · rename_i hi
    cases S with
    | none => cases h
    | some S =>
      obtain ⟨a1, n1⟩ := St_stmtsL (hS S rfl) _ _ _ (hl.step (isT_kind hi)) (fun s hs => by cases hs) ss l' h
      exact ⟨⟨a1, by omega⟩, n1⟩
  · cases h
theorem St_blockT : ∀ m : Nat, StB ts (blockT m)
  | 0 => St_blockK (m := 0) (fun f h => by cases h) (blockT_ok 0) (fun hl ss l' h => by
      obtain ⟨_, a2⟩ := blockK_ok (S := none) (fun S h => by cases h) hl h
      omega)
  | m + 1 => St_blockK (m := 0) (fun f h => by cases h; exact St_stmtK hu (St_blockT m)) (blockT_ok (m + 1)) (fun hl ss l' h => by
      obtain ⟨_, a2⟩ := blockK_ok (S := some (stmtK (exprT m) (argsT (lowE m)) (blockT m))) (fun S h => by cases h; exact stmtT_ok m) hl h
      omega)
omit hu in
theorem St_paramsL : ∀ n out l, Nx ts l → ∀ fs l', paramsL n out l = .ok (fs, l') → Nx ts l' := by
  intro n
  induction n with
  | zero => intro out l _ fs l' h; cases h
  | succ n ih =>
    intro out l hl fs l' h
    simp only [paramsL] at h
    split at h
    · rename_i hi; cases h; exact hl.step (isT_kind hi)
    · obtain ⟨u, l1, h1, h⟩ := PR.thenOk h
      have n1 : Nx ts l1 := by
        split at h1
        · cases h1; exact hl
        · exact hl.eat h1
      obtain ⟨f, l2, h2, h⟩ := PR.thenOk h
      exact ih _ l2 (St_fieldT n1 h2) fs l' h
omit hu in
theorem St_fieldsL : ∀ n out l, Nx ts l → ∀ fs l', fieldsL n out l = .ok (fs, l') → Nx ts l' := by
  intro n
  induction n with
  | zero => intro out l _ fs l' h; cases h
  | succ n ih =>
    intro out l hl fs l' h
    simp only [fieldsL] at h
    split at h
    · rename_i hi; cases h; exact hl.step (isT_kind hi)
    · obtain ⟨f, l2, h2, h⟩ := PR.thenOk h
      obtain ⟨u, l3, h3, h⟩ := PR.thenOk h
      exact ih _ l3 ((St_fieldT hl h2).eat h3) fs l' h
omit hu in
theorem St_structT {l : List Tok} (hl : Nx ts l) (hk : (hdT l).kind ≠ 5) {s : Sr0} {l' : List Tok} (h : structT l = .ok (s, l')) : Nx ts l' := by
  obtain ⟨t, l1, h3, h⟩ := PR.thenOk h
  have n1 := (hl.step hk).name h3
  obtain ⟨u, l2, h4, h⟩ := PR.thenOk h
  have n2 := n1.eat h4
  obtain ⟨fs, l3, h5, h⟩ := PR.thenOk h
  have n3 := St_fieldsL _ _ _ n2 fs l3 h5
  obtain ⟨u2, l4, h6, h⟩ := PR.thenOk h
  have n4 := n3.eat h6
  cases h
  exact n4
omit hu in
def StF (ts : List Tok) (f : Fn0) : Prop := (∀ s, s ∈ f.body → StS ts s) ∧ f.body.length ≤ 1000000
theorem St_funcT {l : List Tok} (hl : Nx ts l) {f : Fn0} {l' : List Tok} (h : funcT l = .ok (f, l')) : StF ts f ∧ Nx ts l' := by
  obtain ⟨t, l1, h3, h⟩ := PR.thenOk h
  have n1 := St_typeT hl h3
  obtain ⟨n, l2, h4, h⟩ := PR.thenOk h
  obtain ⟨u, l3, h5, h⟩ := PR.thenOk h
  obtain ⟨ps, l4, h6, h⟩ := PR.thenOk h
  have n4 := St_paramsL _ _ _ ((n1.name h4).eat h5) ps l4 h6
  obtain ⟨b, l5, h7, h⟩ := PR.thenOk h
  obtain ⟨a1, n5⟩ := St_blockT hu 200 l4 n4 b l5 h7
  cases h
  exact ⟨a1, n5⟩
theorem St_partsL : ∀ n p l, Nx ts l → (∀ f, f ∈ p.funcs → StF ts f) → p.funcs.length + l.length ≤ 1000000 → ∀ q l', partsL n p l = .ok (q, l') → (∀ f, f ∈ q.funcs → StF ts f) ∧ q.funcs.length ≤ 1000000 := by
  intro n
  induction n with
  | zero => intro p l hl hp hb q l' h; cases h; exact ⟨hp, by omega⟩
  | succ n ih =>
    intro p l hl hp hb q l' h
    simp only [partsL] at h
    split at h
    · cases h; exact ⟨hp, by omega⟩
    · rename_i hk
      split at h
      · obtain ⟨s, l1, h1, h2⟩ := PR.thenOk h
        obtain ⟨_, hlt⟩ := structT_ok hl.ok hk h1
        exact ih ⟨p.structs ++ [s], p.funcs⟩ l1 (St_structT hl hk h1) hp (by simp only; omega) q l' h2
      · obtain ⟨f, l1, h1, h2⟩ := PR.thenOk h
        obtain ⟨a1, n1⟩ := St_funcT hu hl h1
        obtain ⟨_, hlt⟩ := funcT_ok l hl.ok f l1 h1
        exact ih _ l1 n1 (fun x hx => by
          rcases List.mem_append.1 hx with hx | hx
          · exact hp x hx
          · cases List.mem_singleton.1 hx; exact a1) (by simp only [List.length_append, List.length_cons, List.length_nil]; omega) q l' h2
end
theorem parseT_stands {ts : List Tok} (hu : Uniq ts) (hok : OkT ts) : (∀ f, f ∈ (parseT ts).1.funcs → StF ts f) ∧ (parseT ts).1.funcs.length ≤ 1000000 := by
  unfold parseT
  split
  · rename_i p l h
    exact St_partsL hu _ _ _ ⟨hok, [], rfl⟩ (fun f hf => by cases hf) (by have := hok.few; simp only [List.length_nil]; omega) p l h
  · exact ⟨fun f hf => (by cases hf), Nat.zero_le _⟩
end Go.Proofs.Ytlcbnlfbbjmpbaa
