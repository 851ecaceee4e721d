/- The parser as plain maths: it goes on, and what it gives is of bounded size. Conditions: none. -/
import Derived.Test.YtlcbnlfbbjmpbaaY1
set_option linter.unusedSimpArgs false
set_option linter.unusedVariables false
namespace Go.Proofs.Ytlcbnlfbbjmpbaa
open Go Go.Ab
/-- Tokens that are ended. -/
structure OkT (l : List Tok) : Prop where
  end_ : ∃ a t, l = a ++ [t] ∧ t.kind = 5 ∧ ∀ x, x ∈ a → x.kind ≠ 5
  few : l.length ≤ 1000000
theorem OkT.ne {l : List Tok} (h : OkT l) : ∃ t r, l = t :: r := by
  obtain ⟨a, t, rfl, _⟩ := h.end_
  cases a with
  | nil => exact ⟨t, [], rfl⟩
  | cons x a => exact ⟨x, a ++ [t], rfl⟩
theorem OkT.tail {t : Tok} {r : List Tok} (h : OkT (t :: r)) (hk : t.kind ≠ 5) : OkT r := by
  obtain ⟨a, u, e, h1, h2⟩ := h.end_
  cases a with
  | nil =>
    simp only [List.nil_append, List.cons.injEq] at e
    obtain ⟨rfl, rfl⟩ := e
    exact absurd h1 hk
  | cons x a =>
    simp only [List.cons_append, List.cons.injEq] at e
    obtain ⟨rfl, rfl⟩ := e
    exact ⟨⟨a, u, rfl, h1, fun y hy => h2 y (by simp [hy])⟩, by have := h.few; simp only [List.length_cons] at this; omega⟩
theorem PR.thenOk {α β : Type} {x : PR α} {k : α → List Tok → PR β} {r : β × List Tok} (h : PR.andThen x k = .ok r) : ∃ a l, x = .ok (a, l) ∧ k a l = .ok r := by
  unfold PR.andThen at h
  split at h
  · rename_i a l; exact ⟨a, l, rfl, h⟩
  · cases h
/-- One token is passed over. -/
theorem OkT.step {l : List Tok} (h : OkT l) (hk : (hdT l).kind ≠ 5) : OkT l.tail ∧ l.tail.length + 1 = l.length := by
  obtain ⟨t, r, rfl⟩ := h.ne
  exact ⟨h.tail hk, rfl⟩
theorem isT_kind {l : List Tok} {s : Str} (h : isT l s = true) : (hdT l).kind ≠ 5 := by
  unfold isT at h
  simp only [Bool.and_eq_true, Bool.or_eq_true, decide_eq_true_eq] at h
  omega
theorem anyT_kind {l : List Tok} {ss : List Str} (h : anyT l ss = true) : (hdT l).kind ≠ 5 := by
  unfold anyT at h
  obtain ⟨s, _, hs⟩ := List.any_eq_true.1 h
  exact isT_kind hs
theorem eatT_ok {l l' : List Tok} {s : Str} {u : Unit} (hl : OkT l) (h : eatT s l = .ok (u, l')) : OkT l' ∧ l'.length + 1 = l.length ∧ l' = l.tail ∧ isT l s = true := by
  unfold eatT at h
  split at h
  · rename_i hi
    cases h
    obtain ⟨h1, h2⟩ := hl.step (isT_kind hi)
    exact ⟨h1, h2, rfl, hi⟩
  · cases h
theorem nameT_ok {l l' : List Tok} {t : Tok} (hl : OkT l) (h : nameT l = .ok (t, l')) : OkT l' ∧ l'.length + 1 = l.length ∧ l' = l.tail ∧ t = hdT l ∧ (hdT l).kind = 1 := by
  unfold nameT at h
  split at h
  · rename_i hi
    cases h
    obtain ⟨h1, h2⟩ := hl.step (by omega)
    exact ⟨h1, h2, rfl, rfl, hi⟩
  · cases h
theorem builtT_ok {l l' : List Tok} {e e' : Ex0} (h : builtT e l = .ok (e', l')) : e' = e ∧ l' = l ∧ hgtE e ≤ 200 := by
  unfold builtT at h
  split at h
  · cases h
  · cases h; exact ⟨rfl, rfl, by omega⟩
/-- An expression's parser: it goes on. -/
def GoodE (P : List Tok → PR Ex0) : Prop := ∀ (l : List Tok), OkT l → ∀ (e : Ex0) (l' : List Tok), P l = .ok (e, l') → OkT l' ∧ cntE e + l'.length ≤ l.length ∧ hgtE e ≤ 200
def GoodO (P : Option (List Tok → PR Ex0)) : Prop := ∀ E, P = some E → GoodE E
theorem argsL_ok {E : List Tok → PR Ex0} (hE : GoodE E) : ∀ (n : Nat) (out : List Ex0) (l : List Tok), OkT l → (∀ e, e ∈ out → hgtE e ≤ 200) → ∀ (ks : List Ex0) (l' : List Tok), argsL E n out l = .ok (ks, l') → OkT l' ∧ cntEs ks + l'.length + 1 ≤ cntEs out + l.length ∧ ∀ e, e ∈ ks → hgtE e ≤ 200 := by
  intro n
  induction n with
  | zero => intro out l _ _ ks l' h; cases h
  | succ n ih =>
    intro out l hl ho ks l' h
    simp only [argsL] at h
    split at h
    · rename_i hi
      cases h
      obtain ⟨h1, h2⟩ := hl.step (isT_kind hi)
      exact ⟨h1, by omega, ho⟩
    · obtain ⟨u, l1, h1, h2⟩ := PR.thenOk h
      obtain ⟨e, l2, h3, h4⟩ := PR.thenOk h2
      have hl1 : OkT l1 ∧ l1.length ≤ l.length := by
        split at h1
        · cases h1; exact ⟨hl, Nat.le_refl _⟩
        · obtain ⟨a1, a2, _⟩ := eatT_ok hl h1; exact ⟨a1, by omega⟩
      obtain ⟨b1, b2, b3⟩ := hE l1 hl1.1 e l2 h3
      obtain ⟨c1, c2, c3⟩ := ih (out ++ [e]) l2 b1 (fun x hx => by
        rcases List.mem_append.1 hx with hx | hx
        · exact ho x hx
        · cases List.mem_singleton.1 hx; exact b3) ks l' h4
      rw [cntEs_append] at c2
      simp only [cntEs] at c2
      exact ⟨c1, by omega, c3⟩
theorem argsT_ok {E : Option (List Tok → PR Ex0)} (hE : GoodO E) {l : List Tok} (hl : OkT l) (hk : (hdT l).kind ≠ 5) {ks : List Ex0} {l' : List Tok} (h : argsT E l = .ok (ks, l')) : OkT l' ∧ cntEs ks + l'.length + 2 ≤ l.length ∧ ∀ e, e ∈ ks → hgtE e ≤ 200 := by
  cases E with
  | none => cases h
  | some E =>
    obtain ⟨h1, h2⟩ := hl.step hk
    obtain ⟨a1, a2, a3⟩ := argsL_ok (hE E rfl) _ _ _ h1 (fun e he => by cases he) ks l' h
    simp only [cntEs] at a2
    exact ⟨a1, by omega, a3⟩
theorem cnt_leaf {k n : Int} {s o : Str} {p : Po} : cntE (.mk k n s o [] p) = 1 := by simp [cntE, cntEs]
theorem primT_ok {E : Option (List Tok → PR Ex0)} (hE : GoodO E) : GoodE (primT E) := by
  intro l hl e l' h
  unfold primT at h
  split at h
  · rename_i hk
    obtain ⟨rfl, rfl, h3⟩ := builtT_ok h
    obtain ⟨a1, a2⟩ := hl.step (by omega)
    exact ⟨a1, by rw [cnt_leaf]; omega, h3⟩
  split at h
  · rename_i hk
    obtain ⟨a1, a2⟩ := hl.step (by omega)
    split at h
    · rename_i hp
      obtain ⟨ks, l1, h1, h2⟩ := PR.thenOk h
      obtain ⟨rfl, rfl, h3⟩ := builtT_ok h2
      obtain ⟨b1, b2, _⟩ := argsT_ok hE a1 (isT_kind hp) h1
      exact ⟨b1, by simp only [cntE]; omega, h3⟩
    · obtain ⟨rfl, rfl, h3⟩ := builtT_ok h
      exact ⟨a1, by rw [cnt_leaf]; omega, h3⟩
  split at h
  · rename_i hi
    obtain ⟨a1, a2⟩ := hl.step (isT_kind hi)
    obtain ⟨rfl, rfl, h3⟩ := builtT_ok h
    exact ⟨a1, by rw [cnt_leaf]; omega, h3⟩
  split at h
  · rename_i hi
    obtain ⟨a1, a2⟩ := hl.step (isT_kind hi)
    obtain ⟨t, l1, h1, h2⟩ := PR.thenOk h
    obtain ⟨b1, b2, _⟩ := nameT_ok a1 h1
    obtain ⟨rfl, rfl, h3⟩ := builtT_ok h2
    exact ⟨b1, by rw [cnt_leaf]; omega, h3⟩
  split at h
  · rename_i hi
    obtain ⟨a1, a2⟩ := hl.step (isT_kind hi)
    obtain ⟨_, l1, h1, h2⟩ := PR.thenOk h
    obtain ⟨b1, b2, _⟩ := eatT_ok a1 h1
    obtain ⟨_, l2, h4, h5⟩ := PR.thenOk h2
    obtain ⟨c1, c2, _⟩ := eatT_ok b1 h4
    obtain ⟨rfl, rfl, h3⟩ := builtT_ok h5
    exact ⟨c1, by rw [cnt_leaf]; omega, h3⟩
  split at h
  · rename_i hi
    obtain ⟨a1, a2⟩ := hl.step (isT_kind hi)
    cases E with
    | none => cases h
    | some E =>
      obtain ⟨e1, l1, h1, h2⟩ := PR.thenOk h
      obtain ⟨b1, b2, b3⟩ := hE E rfl _ a1 e1 l1 h1
      obtain ⟨_, l2, h4, h5⟩ := PR.thenOk h2
      obtain ⟨c1, c2, _⟩ := eatT_ok b1 h4
      cases h5
      exact ⟨c1, by omega, b3⟩
  · cases h
theorem arrowL_ok : ∀ (n : Nat) (e : Ex0) (l : List Tok), OkT l → hgtE e ≤ 200 → ∀ (e' : Ex0) (l' : List Tok), arrowL n e l = .ok (e', l') → OkT l' ∧ cntE e' + l'.length ≤ cntE e + l.length ∧ hgtE e' ≤ 200 := by
  intro n
  induction n with
  | zero => intro e l hl he e' l' h; cases h; exact ⟨hl, Nat.le_refl _, he⟩
  | succ n ih =>
    intro e l hl he e' l' h
    simp only [arrowL] at h
    split at h
    · rename_i hi
      obtain ⟨a1, a2⟩ := hl.step (isT_kind hi)
      obtain ⟨t, l1, h1, h2⟩ := PR.thenOk h
      obtain ⟨b1, b2, _⟩ := nameT_ok a1 h1
      obtain ⟨e2, l2, h4, h5⟩ := PR.thenOk h2
      obtain ⟨rfl, rfl, h3⟩ := builtT_ok h4
      obtain ⟨c1, c2, c3⟩ := ih _ _ b1 h3 e' l' h5
      simp only [cntE, cntEs] at c2
      exact ⟨c1, by omega, c3⟩
    · cases h; exact ⟨hl, Nat.le_refl _, he⟩
theorem unaryK_ok {U E : Option (List Tok → PR Ex0)} (hU : GoodO U) (hE : GoodO E) : GoodE (unaryK U E) := by
  intro l hl e l' h
  unfold unaryK at h
  split at h
  · rename_i hi
    obtain ⟨a1, a2⟩ := hl.step (anyT_kind hi)
    cases U with
    | none => cases h
    | some U =>
      obtain ⟨x, l1, h1, h2⟩ := PR.thenOk h
      obtain ⟨b1, b2, b3⟩ := hU U rfl _ a1 x l1 h1
      obtain ⟨rfl, rfl, h3⟩ := builtT_ok h2
      exact ⟨b1, by simp only [cntE, cntEs]; omega, h3⟩
  · obtain ⟨x, l1, h1, h2⟩ := PR.thenOk h
    obtain ⟨b1, b2, b3⟩ := primT_ok hE l hl x l1 h1
    obtain ⟨c1, c2, c3⟩ := arrowL_ok _ _ _ b1 b3 e l' h2
    exact ⟨c1, by omega, c3⟩
theorem chainL_ok {P : List Tok → PR Ex0} (hP : GoodE P) (ops : List Str) : ∀ (n : Nat) (e : Ex0) (l : List Tok), OkT l → hgtE e ≤ 200 → ∀ (e' : Ex0) (l' : List Tok), chainL P ops n e l = .ok (e', l') → OkT l' ∧ cntE e' + l'.length ≤ cntE e + l.length ∧ hgtE e' ≤ 200 := by
  intro n
  induction n with
  | zero => intro e l hl he e' l' h; cases h; exact ⟨hl, Nat.le_refl _, he⟩
  | succ n ih =>
    intro e l hl he e' l' h
    simp only [chainL] at h
    split at h
    · rename_i hi
      obtain ⟨a1, a2⟩ := hl.step (anyT_kind hi)
      obtain ⟨x, l1, h1, h2⟩ := PR.thenOk h
      obtain ⟨b1, b2, b3⟩ := hP _ a1 x l1 h1
      obtain ⟨e2, l2, h4, h5⟩ := PR.thenOk h2
      obtain ⟨rfl, rfl, h3⟩ := builtT_ok h4
      obtain ⟨c1, c2, c3⟩ := ih _ _ b1 h3 e' l' h5
      simp only [cntE, cntEs] at c2
      exact ⟨c1, by omega, c3⟩
    · cases h; exact ⟨hl, Nat.le_refl _, he⟩
theorem leftT_ok {P : List Tok → PR Ex0} (hP : GoodE P) (ops : List Str) : GoodE (leftT P ops) := by
  intro l hl e l' h
  obtain ⟨x, l1, h1, h2⟩ := PR.thenOk h
  obtain ⟨b1, b2, b3⟩ := hP l hl x l1 h1
  obtain ⟨c1, c2, c3⟩ := chainL_ok hP ops _ _ _ b1 b3 e l' h2
  exact ⟨c1, by omega, c3⟩
theorem exprK_ok {U : List Tok → PR Ex0} (hU : GoodE U) : GoodE (exprK U) := by
  intro l hl e l' h
  have hS : GoodE (sumK U) := leftT_ok (leftT_ok hU opsM) opsA
  obtain ⟨x, l1, h1, h2⟩ := PR.thenOk h
  obtain ⟨b1, b2, b3⟩ := hS l hl x l1 h1
  split at h2
  · rename_i hi
    obtain ⟨a1, a2⟩ := b1.step (anyT_kind hi)
    obtain ⟨y, l2, h3, h4⟩ := PR.thenOk h2
    obtain ⟨c1, c2, c3⟩ := hS _ a1 y l2 h3
    obtain ⟨rfl, rfl, h5⟩ := builtT_ok h4
    exact ⟨c1, by simp only [cntE, cntEs]; omega, h5⟩
  · cases h2; exact ⟨b1, b2, b3⟩
theorem unaryT_ok : ∀ m : Nat, GoodE (unaryT m)
  | 0 => unaryK_ok (fun E h => by cases h) (fun E h => by cases h)
  | m + 1 => unaryK_ok (fun E h => by cases h; exact unaryT_ok m) (fun E h => by cases h; exact exprK_ok (unaryT_ok m))
theorem exprT_ok (m : Nat) : GoodE (exprT m) := exprK_ok (unaryT_ok m)
theorem lowE_ok : ∀ m : Nat, GoodO (lowE m)
  | 0 => fun E h => by cases h
  | m + 1 => fun E h => by cases h; exact exprT_ok m
theorem lowU_ok : ∀ m : Nat, GoodO (lowU m)
  | 0 => fun E h => by cases h
  | m + 1 => fun E h => by cases h; exact unaryT_ok m
end Go.Proofs.Ytlcbnlfbbjmpbaa
