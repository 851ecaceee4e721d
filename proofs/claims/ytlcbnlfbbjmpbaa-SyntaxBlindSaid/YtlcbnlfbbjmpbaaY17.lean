/- What is parsed hangs on the tokens alone: plain maths. Conditions: none. -/
import Derived.Test.YtlcbnlfbbjmpbaaY13
set_option linter.unusedSimpArgs false
set_option linter.unusedVariables false
namespace Go.Proofs.Ytlcbnlfbbjmpbaa
open Go Go.Ab
mutual
/-- An expression without its places. -/
def erE : Ex0 → Ex0
  | .mk k n s o ks _ => .mk k n s o (erEs ks) ⟨0, 0⟩
def erEs : List Ex0 → List Ex0
  | [] => []
  | e :: l => erE e :: erEs l
end
theorem erEs_map : ∀ l : List Ex0, erEs l = l.map erE
  | [] => rfl
  | e :: l => by simp only [erEs, List.map_cons, erEs_map l]
mutual
theorem hgt_er : ∀ e : Ex0, hgtE (erE e) = hgtE e
  | .mk k n s o ks p => by simp only [erE, hgtE, hgts_er ks]
theorem hgts_er : ∀ l : List Ex0, hgtEs (erEs l) = hgtEs l
  | [] => rfl
  | e :: l => by simp only [erEs, hgtEs, hgt_er e, hgts_er l]
end
mutual
def erS : St0 → St0
  | .mk k t n e b l _ => .mk k t n (erEs e) (erSs b) (erSs l) ⟨0, 0⟩
def erSs : List St0 → List St0
  | [] => []
  | s :: l => erS s :: erSs l
end
theorem erSs_map : ∀ l : List St0, erSs l = l.map erS
  | [] => rfl
  | e :: l => by simp only [erSs, List.map_cons, erSs_map l]
def erF (f : Fl0) : Fl0 := ⟨f.name, f.t, ⟨0, 0⟩⟩
def erR (s : Sr0) : Sr0 := ⟨s.name, s.fields.map erF, ⟨0, 0⟩⟩
def erFn (f : Fn0) : Fn0 := ⟨f.name, f.params.map erF, f.ret, erSs f.body, ⟨0, 0⟩⟩
def erP (p : Pr0) : Pr0 := ⟨p.structs.map erR, p.funcs.map erFn⟩
def erT (t : Tok) : Int × Str × Int := (t.kind, t.text, t.num)
/-- Tokens that are the same but for their places. -/
def Alk (l m : List Tok) : Prop := l.map erT = m.map erT
theorem Alk.len {l m : List Tok} (h : Alk l m) : l.length = m.length := by have := congrArg List.length h; simpa using this
theorem Alk.tail {l m : List Tok} (h : Alk l m) : Alk l.tail m.tail := by
  unfold Alk at *
  cases l with
  | nil => cases m with
    | nil => rfl
    | cons b m => cases h
  | cons a l => cases m with
    | nil => cases h
    | cons b m => simp only [List.map_cons, List.cons.injEq] at h; exact h.2
theorem Alk.hd {l m : List Tok} (h : Alk l m) : (hdT l).kind = (hdT m).kind ∧ (hdT l).text = (hdT m).text ∧ (hdT l).num = (hdT m).num := by
  unfold Alk at h
  cases l with
  | nil => cases m with
    | nil => exact ⟨rfl, rfl, rfl⟩
    | cons b m => cases h
  | cons a l => cases m with
    | nil => cases h
    | cons b m =>
      simp only [List.map_cons, List.cons.injEq, erT, Prod.mk.injEq] at h
      exact h.1
theorem Alk.is {l m : List Tok} (h : Alk l m) (s : Str) : isT l s = isT m s := by
  obtain ⟨h1, h2, _⟩ := h.hd
  unfold isT
  rw [h1, h2]
theorem Alk.any {l m : List Tok} (h : Alk l m) (ss : List Str) : anyT l ss = anyT m ss := by
  unfold anyT
  congr 1
  funext s
  exact h.is s
def Sim {α : Type} (R : α → α → Prop) (x y : PR α) : Prop := match x, y with
  | .ok (a, l), .ok (b, m) => R a b ∧ Alk l m
  | .error d, .error d' => d.what = d'.what
  | _, _ => False
theorem Sim.andThen {α β : Type} {R : α → α → Prop} {R' : β → β → Prop} {x y : PR α} {k k' : α → List Tok → PR β} (h : Sim R x y) (hk : ∀ a b l m, R a b → Alk l m → Sim R' (k a l) (k' b m)) : Sim R' (PR.andThen x k) (PR.andThen y k') := by
  cases x with
  | error d => cases y with
    | error d' => exact h
    | ok s => exact h.elim
  | ok r => cases y with
    | error d' => exact h.elim
    | ok s => exact hk _ _ _ _ h.1 h.2
theorem Sim.ok {α : Type} {R : α → α → Prop} {a b : α} {l m : List Tok} (h : R a b) (hl : Alk l m) : Sim R (.ok (a, l)) (.ok (b, m)) := ⟨h, hl⟩
theorem Sim.odd {α : Type} {R : α → α → Prop} (l m : List Tok) : Sim R (.error (oddD l)) (.error (oddD m)) := rfl
theorem Sim.deep {α : Type} {R : α → α → Prop} (l m : List Tok) : Sim R (.error (deepD l)) (.error (deepD m)) := rfl
abbrev AE (e f : Ex0) : Prop := erE e = erE f
abbrev AEs (e f : List Ex0) : Prop := erEs e = erEs f
theorem AEs.snoc {a b : List Ex0} {e f : Ex0} (h : AEs a b) (k : AE e f) : AEs (a ++ [e]) (b ++ [f]) := by
  unfold AEs AE at *
  rw [erEs_map, erEs_map] at *
  rw [List.map_append, List.map_append, h, List.map_cons, List.map_cons, k]
theorem AE.mk {k n : Int} {s o : Str} {a b : List Ex0} {p q : Po} (h : AEs a b) : AE (.mk k n s o a p) (.mk k n s o b q) := by unfold AE; simp only [erE]; rw [h]
theorem Sim.eat (s : Str) {l m : List Tok} (h : Alk l m) : Sim (fun _ _ => True) (eatT s l) (eatT s m) := by
  unfold eatT
  rw [h.is]
  split
  · exact .ok trivial h.tail
  · exact .odd _ _
def TE (a b : Tok) : Prop := a.text = b.text
theorem Sim.name {l m : List Tok} (h : Alk l m) : Sim TE (nameT l) (nameT m) := by
  unfold nameT
  rw [h.hd.1]
  split
  · exact .ok h.hd.2.1 h.tail
  · exact .odd _ _
theorem Sim.built {e f : Ex0} (he : AE e f) {l m : List Tok} (h : Alk l m) : Sim AE (builtT e l) (builtT f m) := by
  have hh : hgtE e = hgtE f := by rw [← hgt_er e, ← hgt_er f, he]
  unfold builtT
  rw [hh]
  split
  · rfl
  · exact .ok he h
def SimE (P Q : List Tok → PR Ex0) : Prop := ∀ l m, Alk l m → Sim AE (P l) (Q m)
def SimO (P Q : Option (List Tok → PR Ex0)) : Prop := match P, Q with
  | some P, some Q => SimE P Q
  | none, none => True
  | _, _ => False
theorem Sim.argsL {E F : List Tok → PR Ex0} (hE : SimE E F) : ∀ n out out' l m, AEs out out' → Alk l m → Sim AEs (argsL E n out l) (argsL F n out' m)
  | 0, _, _, _, _, _, _ => .odd _ _
  | n + 1, out, out', l, m, ho, h => by
    simp only [Go.Proofs.Ytlcbnlfbbjmpbaa.argsL]
    have hem : out.isEmpty = out'.isEmpty := by
      unfold AEs at ho
      cases out <;> cases out' <;> first | rfl | (simp [erEs] at ho)
    rw [h.is, hem]
    split
    · exact .ok ho h.tail
    · refine .andThen (R := fun _ _ => True) ?_ fun _ _ l m _ h => .andThen (hE l m h) fun e f l m he h => Sim.argsL hE n _ _ l m (ho.snoc he) h
      split
      · exact .ok trivial h
      · exact .eat _ h
theorem Sim.argsT {E F : Option (List Tok → PR Ex0)} (hE : SimO E F) {l m : List Tok} (h : Alk l m) : Sim AEs (argsT E l) (argsT F m) := by
  cases E with
  | none => cases F with
    | none => exact .deep _ _
    | some F => exact hE.elim
  | some E => cases F with
    | none => exact hE.elim
    | some F =>
      simp only [Go.Proofs.Ytlcbnlfbbjmpbaa.argsT]
      rw [h.len]
      exact Sim.argsL hE _ _ _ _ _ rfl h.tail
theorem Sim.innerT {E F : Option (List Tok → PR Ex0)} (hE : SimO E F) {l m : List Tok} (h : Alk l m) : Sim AE (innerT E l) (innerT F m) := by
  cases E with
  | none => cases F with
    | none => exact .deep _ _
    | some F => exact hE.elim
  | some E => cases F with
    | none => exact hE.elim
    | some F => exact .andThen (hE _ _ h.tail) fun e f l m he h => .andThen (.eat _ h) fun _ _ l m _ h => .ok he h
theorem Sim.primT {E F : Option (List Tok → PR Ex0)} (hE : SimO E F) : SimE (primT E) (primT F) := by
  intro l m h
  obtain ⟨h1, h2, h3⟩ := h.hd
  unfold Go.Proofs.Ytlcbnlfbbjmpbaa.primT
  rw [h1, h2, h3, h.is, h.is, h.is, h.is, h.tail.is]
  split
  · exact .built (AE.mk rfl) h.tail
  split
  · split
    · exact .andThen (Sim.argsT hE h.tail) fun _ _ l m hk h => .built (AE.mk hk) h
    · exact .built (AE.mk rfl) h.tail
  split
  · exact .built (AE.mk rfl) h.tail
  split
  · exact .andThen (.name h.tail) fun t u l m (ht : t.text = u.text) h => by rw [ht]; exact .built (AE.mk rfl) h
  split
  · exact .andThen (.eat _ h.tail) fun _ _ l m _ h => .andThen (.eat _ h) fun _ _ l m _ h => .built (AE.mk rfl) h
  split
  · exact Sim.innerT hE h
  · exact .odd _ _
theorem AEs.one {e f : Ex0} (h : AE e f) : AEs [e] [f] := by unfold AEs; simp only [erEs]; rw [h]
theorem AEs.two {e f e' f' : Ex0} (h : AE e f) (k : AE e' f') : AEs [e, e'] [f, f'] := by unfold AEs; simp only [erEs]; rw [h, k]
theorem Sim.arrowL : ∀ n e f l m, AE e f → Alk l m → Sim AE (arrowL n e l) (arrowL n f m)
  | 0, _, _, _, _, he, h => .ok he h
  | n + 1, e, f, l, m, he, h => by
    simp only [Go.Proofs.Ytlcbnlfbbjmpbaa.arrowL]
    rw [h.is]
    split
    · exact .andThen (.name h.tail) fun t u l m (ht : t.text = u.text) h => by
        rw [ht]
        exact .andThen (.built (AE.mk (AEs.one he)) h) fun e f l m he h => Sim.arrowL n _ _ _ _ he h
    · exact .ok he h
theorem Sim.unaryK {U V E F : Option (List Tok → PR Ex0)} (hU : SimO U V) (hE : SimO E F) : SimE (unaryK U E) (unaryK V F) := by
  intro l m h
  unfold Go.Proofs.Ytlcbnlfbbjmpbaa.unaryK
  rw [h.any]
  split
  · cases U with
    | none => cases V with
      | none => exact .deep _ _
      | some F => exact hU.elim
    | some U => cases V with
      | none => exact hU.elim
      | some V => exact .andThen (hU _ _ h.tail) fun x y l' m' hx h' => by rw [h.hd.2.1]; exact .built (AE.mk (AEs.one hx)) h'
  · exact .andThen (Sim.primT hE _ _ h) fun e f l m he h => by rw [h.len]; exact Sim.arrowL _ _ _ _ _ he h
theorem Sim.chainL {P Q : List Tok → PR Ex0} (hP : SimE P Q) (ops : List Str) : ∀ n e f l m, AE e f → Alk l m → Sim AE (chainL P ops n e l) (chainL Q ops n f m)
  | 0, _, _, _, _, he, h => .ok he h
  | n + 1, e, f, l, m, he, h => by
    simp only [Go.Proofs.Ytlcbnlfbbjmpbaa.chainL]
    rw [h.any]
    split
    · exact .andThen (hP _ _ h.tail) fun x y l' m' hx h' => by
        rw [h.hd.2.1]
        exact .andThen (.built (AE.mk (AEs.two he hx)) h') fun e f l m he h => Sim.chainL hP ops n _ _ _ _ he h
    · exact .ok he h
theorem Sim.leftT {P Q : List Tok → PR Ex0} (hP : SimE P Q) (ops : List Str) : SimE (leftT P ops) (leftT Q ops) := fun l m h => .andThen (hP l m h) fun e f l m he h => by rw [h.len]; exact Sim.chainL hP ops _ _ _ _ _ he h
theorem Sim.exprK {U V : List Tok → PR Ex0} (hU : SimE U V) : SimE (exprK U) (exprK V) := by
  intro l m h
  have hS : SimE (sumK U) (sumK V) := Sim.leftT (Sim.leftT hU opsM) opsA
  refine .andThen (hS l m h) fun e f l m he h => ?_
  rw [h.any]
  split
  · exact .andThen (hS _ _ h.tail) fun x y l' m' hx h' => by rw [h.hd.2.1]; exact .built (AE.mk (AEs.two he hx)) h'
  · exact .ok he h
theorem Sim.unaryT : ∀ m, SimE (unaryT m) (unaryT m)
  | 0 => Sim.unaryK (U := none) (V := none) (E := none) (F := none) trivial trivial
  | m + 1 => Sim.unaryK (U := some (Go.Proofs.Ytlcbnlfbbjmpbaa.unaryT m)) (V := some (Go.Proofs.Ytlcbnlfbbjmpbaa.unaryT m)) (E := some (Go.Proofs.Ytlcbnlfbbjmpbaa.exprK (Go.Proofs.Ytlcbnlfbbjmpbaa.unaryT m))) (F := some (Go.Proofs.Ytlcbnlfbbjmpbaa.exprK (Go.Proofs.Ytlcbnlfbbjmpbaa.unaryT m))) (Sim.unaryT m) (Sim.exprK (Sim.unaryT m))
theorem Sim.exprT (m : Nat) : SimE (exprT m) (exprT m) := Sim.exprK (Sim.unaryT m)
theorem Sim.lowE : ∀ m, SimO (lowE m) (lowE m)
  | 0 => trivial
  | m + 1 => Sim.exprT m
theorem Sim.typeT {l m : List Tok} (h : Alk l m) : Sim Eq (typeT l) (typeT m) := by
  unfold Go.Proofs.Ytlcbnlfbbjmpbaa.typeT
  rw [h.is]
  split
  · exact .ok rfl h.tail
  · exact .andThen (.name h) fun t u l m (ht : t.text = u.text) h => .andThen (.eat _ h) fun _ _ l m _ h => .ok (by rw [ht]) h
abbrev AS (s t : St0) : Prop := erS s = erS t
abbrev ASs (s t : List St0) : Prop := erSs s = erSs t
theorem AS.mk {k : Int} {t : Tp} {n : Str} {e f : List Ex0} {b c l m : List St0} {p q : Po} (he : AEs e f) (hb : ASs b c) (hl : ASs l m) : AS (.mk k t n e b l p) (.mk k t n f c m q) := by unfold AS; simp only [erS]; rw [he, hb, hl]
theorem ASs.snoc {a b : List St0} {e f : St0} (h : ASs a b) (k : AS e f) : ASs (a ++ [e]) (b ++ [f]) := by
  unfold ASs AS at *
  rw [erSs_map, erSs_map] at *
  rw [List.map_append, List.map_append, h, List.map_cons, List.map_cons, k]
def SimB (P Q : List Tok → PR (List St0)) : Prop := ∀ l m, Alk l m → Sim ASs (P l) (Q m)
def SimS (P Q : List Tok → PR St0) : Prop := ∀ l m, Alk l m → Sim AS (P l) (Q m)
theorem Sim.branchT {E F : List Tok → PR Ex0} {B C : List Tok → PR (List St0)} (hE : SimE E F) (hB : SimB B C) (k : Int) (p q : Po) : SimS (branchT E B k p) (branchT F C k q) := by
  intro l m h
  refine .andThen (.eat _ h) fun _ _ l m _ h => .andThen (hE l m h) fun e f l m he h => .andThen (.eat _ h) fun _ _ l m _ h => .andThen (hB l m h) fun b c l m hb h => ?_
  rw [h.is]
  split
  · exact .andThen (hB _ _ h.tail) fun b' c' l m hb' h => .ok (AS.mk (AEs.one he) hb hb') h
  · exact .ok (AS.mk (AEs.one he) hb rfl) h
def TGR (x y : Int × Str × Ex0) : Prop := x.1 = y.1 ∧ x.2.1 = y.2.1 ∧ AE x.2.2 y.2.2
theorem Sim.targetL : ∀ n k nm e f p q l m, AE e f → Alk l m → Sim TGR (targetL n k nm e p l) (targetL n k nm f q m)
  | 0, _, _, _, _, _, _, _, _, he, h => .ok ⟨rfl, rfl, he⟩ h
  | n + 1, k, nm, e, f, p, q, l, m, he, h => by
    simp only [Go.Proofs.Ytlcbnlfbbjmpbaa.targetL]
    rw [h.is]
    split
    · exact .andThen (.name h.tail) fun t u l m (ht : t.text = u.text) h => by
        rw [ht]
        refine .andThen (R := AE) ?_ fun e f l m he h => Sim.targetL n _ _ _ _ _ _ _ _ he h
        split
        · exact .built (AE.mk (AEs.one he)) h
        · exact .ok he h
    · exact .ok ⟨rfl, rfl, he⟩ h
theorem Sim.targetT {E F : List Tok → PR Ex0} (hE : SimE E F) {a b : Tok} (hab : a.text = b.text) (p q : Po) : SimS (targetT E a p) (targetT F b q) := by
  intro l m h
  unfold Go.Proofs.Ytlcbnlfbbjmpbaa.targetT
  rw [h.len, hab]
  refine .andThen (Sim.targetL _ _ _ _ _ _ _ _ _ (AE.mk rfl) h) fun x y l m hxy h => .andThen (.eat _ h) fun _ _ l m _ h => .andThen (hE l m h) fun e f l m he h => ?_
  obtain ⟨h1, h2, h3⟩ := hxy
  rw [h1, h2]
  refine .ok (AS.mk ?_ rfl rfl) h
  split
  · exact AEs.two h3 he
  · exact AEs.one he
theorem Alk.typed {l m : List Tok} (h : Alk l m) : typedT l = typedT m := by
  unfold typedT
  rw [h.is, h.hd.1, h.tail.hd.1, h.tail.hd.2.1]
theorem Sim.plainT {E F : List Tok → PR Ex0} {A B : List Tok → PR (List Ex0)} (hE : SimE E F) (hA : ∀ l m, Alk l m → Sim AEs (A l) (B m)) : SimS (plainT E A) (plainT F B) := by
  intro l m h
  obtain ⟨h1, h2, h3⟩ := h.hd
  unfold Go.Proofs.Ytlcbnlfbbjmpbaa.plainT
  rw [h1, h.is, h.is, h.is, h.is, h.is, h.typed, h.tail.is]
  split
  · exact .ok (AS.mk rfl rfl rfl) h.tail
  split
  · exact .ok (AS.mk rfl rfl rfl) h.tail
  split
  · exact .andThen (hE _ _ h.tail) fun e f l m he h => .ok (AS.mk (AEs.one he) rfl rfl) h
  split
  · exact .andThen (.eat _ h.tail) fun _ _ l m _ h => .andThen (.name h) fun t u l m (ht : t.text = u.text) h => .andThen (.eat _ h) fun _ _ l m _ h => by rw [ht]; exact .ok (AS.mk rfl rfl rfl) h
  split
  · exact .andThen (.eat _ h.tail) fun _ _ l m _ h => .andThen (hE _ _ h) fun e f l m he h => .andThen (.eat _ h) fun _ _ l m _ h => .ok (AS.mk (AEs.one he) rfl rfl) h
  split
  · exact .andThen (Sim.typeT h) fun t t' l m (htt : t = t') h => .andThen (.name h) fun n n' l m (hn : n.text = n'.text) h => .andThen (.eat _ h) fun _ _ l m _ h => .andThen (hE _ _ h) fun e f l m he h => by rw [htt, hn]; exact .ok (AS.mk (AEs.one he) rfl rfl) h
  split
  · split
    · exact .andThen (hA _ _ h.tail) fun a b l' m' hab h' => by
        rw [h2]
        exact .andThen (.built (AE.mk hab) h') fun e f l m he h => .ok (AS.mk (AEs.one he) rfl rfl) h
    · exact Sim.targetT hE h2 _ _ _ _ h.tail
  · exact .odd _ _
theorem Sim.stmtK {E F : List Tok → PR Ex0} {A B : List Tok → PR (List Ex0)} {C D : List Tok → PR (List St0)} (hE : SimE E F) (hA : ∀ l m, Alk l m → Sim AEs (A l) (B m)) (hB : SimB C D) : SimS (stmtK E A C) (stmtK F B D) := by
  intro l m h
  unfold Go.Proofs.Ytlcbnlfbbjmpbaa.stmtK
  rw [h.is, h.is]
  split
  · exact Sim.branchT hE hB _ _ _ _ _ h.tail
  split
  · exact Sim.branchT hE hB _ _ _ _ _ h.tail
  · exact .andThen (Sim.plainT hE hA _ _ h) fun s t l m hs h => .andThen (.eat _ h) fun _ _ l m _ h => .ok hs h
theorem Sim.stmtsL {S T : List Tok → PR St0} (hS : SimS S T) : ∀ n out out' l m, ASs out out' → Alk l m → Sim ASs (stmtsL S n out l) (stmtsL T n out' m)
  | 0, _, _, _, _, _, _ => .odd _ _
  | n + 1, out, out', l, m, ho, h => by
    simp only [Go.Proofs.Ytlcbnlfbbjmpbaa.stmtsL]
    rw [h.is]
    split
    · exact .ok ho h.tail
    · exact .andThen (hS _ _ h) fun s t l m hs h => Sim.stmtsL hS n _ _ _ _ (ho.snoc hs) h
theorem Sim.blockT : ∀ m, SimB (blockT m) (blockT m)
  | 0 => by
    intro l m h
    simp only [Go.Proofs.Ytlcbnlfbbjmpbaa.blockT, blockK]
    rw [h.is]
    split
    · exact .deep _ _
    · exact .odd _ _
  | k + 1 => by
    intro l m h
    simp only [Go.Proofs.Ytlcbnlfbbjmpbaa.blockT, blockK]
    rw [h.is, h.len]
    split
    · exact Sim.stmtsL (Sim.stmtK (Sim.exprT k) (fun l m h => Sim.argsT (Sim.lowE k) h) (Sim.blockT k)) _ _ _ _ _ rfl h.tail
    · exact .odd _ _
def AF (a b : Fl0) : Prop := erF a = erF b
theorem Sim.fieldT {l m : List Tok} (h : Alk l m) : Sim AF (fieldT l) (fieldT m) := .andThen (Sim.typeT h) fun t t' l m (htt : t = t') h => .andThen (.name h) fun n n' l m (hn : n.text = n'.text) h => .ok (by unfold AF erF; rw [htt, hn]) h
def AFs (a b : List Fl0) : Prop := a.map erF = b.map erF
theorem AFs.snoc {a b : List Fl0} {e f : Fl0} (h : AFs a b) (k : AF e f) : AFs (a ++ [e]) (b ++ [f]) := by
  unfold AFs AF at *
  rw [List.map_append, List.map_append, h, List.map_cons, List.map_cons, k]
theorem Sim.fieldsL : ∀ n out out' l m, AFs out out' → Alk l m → Sim AFs (fieldsL n out l) (fieldsL n out' m)
  | 0, _, _, _, _, _, _ => .odd _ _
  | n + 1, out, out', l, m, ho, h => by
    simp only [Go.Proofs.Ytlcbnlfbbjmpbaa.fieldsL]
    rw [h.is]
    split
    · exact .ok ho h.tail
    · exact .andThen (Sim.fieldT h) fun s t l m hs h => .andThen (.eat _ h) fun _ _ l m _ h => Sim.fieldsL n _ _ _ _ (ho.snoc hs) h
theorem Sim.paramsL : ∀ n out out' l m, AFs out out' → Alk l m → Sim AFs (paramsL n out l) (paramsL n out' m)
  | 0, _, _, _, _, _, _ => .odd _ _
  | n + 1, out, out', l, m, ho, h => by
    simp only [Go.Proofs.Ytlcbnlfbbjmpbaa.paramsL]
    have hem : out.isEmpty = out'.isEmpty := by
      unfold AFs at ho
      cases out <;> cases out' <;> first | rfl | (simp at ho)
    rw [h.is, hem]
    split
    · exact .ok ho h.tail
    · refine .andThen (R := fun _ _ => True) ?_ fun _ _ l m _ h => .andThen (Sim.fieldT h) fun e f l m he h => Sim.paramsL n _ _ l m (ho.snoc he) h
      split
      · exact .ok trivial h
      · exact .eat _ h
def AR (a b : Sr0) : Prop := erR a = erR b
def AN (a b : Fn0) : Prop := erFn a = erFn b
theorem Sim.structT {l m : List Tok} (h : Alk l m) : Sim AR (structT l) (structT m) := by
  refine .andThen (.name h.tail) fun t u l m (ht : t.text = u.text) h => .andThen (.eat _ h) fun _ _ l m _ h => ?_
  rw [h.len]
  exact .andThen (Sim.fieldsL _ _ _ _ _ rfl h) fun a b l m (hab : a.map erF = b.map erF) h => .andThen (.eat _ h) fun _ _ l m _ h => .ok (by unfold AR erR; rw [ht, hab]) h
theorem Sim.funcT {l m : List Tok} (h : Alk l m) : Sim AN (funcT l) (funcT m) := by
  refine .andThen (Sim.typeT h) fun t t' l m (htt : t = t') h => .andThen (.name h) fun n n' l m (hn : n.text = n'.text) h => .andThen (.eat _ h) fun _ _ l m _ h => ?_
  rw [h.len]
  exact .andThen (Sim.paramsL _ _ _ _ _ rfl h) fun a b l m (hab : a.map erF = b.map erF) h => .andThen (Sim.blockT 200 _ _ h) fun c d l m (hcd : erSs c = erSs d) h => .ok (by unfold AN erFn; rw [htt, hn, hab, hcd]) h
def AP (a b : Pr0) : Prop := erP a = erP b
theorem Sim.partsL : ∀ n p q l m, AP p q → Alk l m → Sim AP (partsL n p l) (partsL n q m)
  | 0, _, _, _, _, hp, h => .ok hp h
  | n + 1, p, q, l, m, hp, h => by
    simp only [Go.Proofs.Ytlcbnlfbbjmpbaa.partsL]
    rw [h.is, h.hd.1]
    unfold AP erP at hp
    simp only [Pr0.mk.injEq] at hp
    split
    · exact .ok (by unfold AP erP; rw [hp.1, hp.2]) h
    split
    · exact .andThen (Sim.structT h) fun s t l m (hs : erR s = erR t) h => Sim.partsL n _ _ _ _ (by unfold AP erP; simp only [List.map_append, List.map_cons, List.map_nil, hp.1, hp.2, hs]) h
    · exact .andThen (Sim.funcT h) fun s t l m (hs : erFn s = erFn t) h => Sim.partsL n _ _ _ _ (by unfold AP erP; simp only [List.map_append, List.map_cons, List.map_nil, hp.1, hp.2, hs]) h
/-- Tokens that are the same but for their places give programs that are, or the same fault. -/
theorem parseT_alike {l m : List Tok} (h : Alk l m) : AP (parseT l).1 (parseT m).1 ∧ (parseT l).2.what = (parseT m).2.what := by
  have hs := Sim.partsL l.length ⟨[], []⟩ ⟨[], []⟩ l m rfl h
  unfold parseT
  rw [← h.len]
  cases h1 : partsL l.length ⟨[], []⟩ l with
  | error d => cases h2 : partsL l.length ⟨[], []⟩ m with
    | error d' => rw [h1, h2] at hs; exact ⟨rfl, hs⟩
    | ok r => rw [h1, h2] at hs; exact hs.elim
  | ok r => cases h2 : partsL l.length ⟨[], []⟩ m with
    | error d' => rw [h1, h2] at hs; exact hs.elim
    | ok s =>
      rw [h1, h2] at hs
      obtain ⟨a, l1⟩ := r
      obtain ⟨b, l2⟩ := s
      exact ⟨hs.1, rfl⟩
end Go.Proofs.Ytlcbnlfbbjmpbaa
