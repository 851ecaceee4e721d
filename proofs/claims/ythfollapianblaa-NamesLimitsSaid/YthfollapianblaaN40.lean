/- What is right stays so with one more struct and function, as plain maths. Conditions: none. -/
import Derived.Test.YthfollapianblaaNB
set_option linter.unusedSimpArgs false
set_option linter.unusedVariables false
namespace Go.Proofs.Ythfollapianblaa
open Go Go.Ab
/-- The second answers as the first where this one is right. -/
def LeX {α : Type} (x y : Except Dg α) : Prop := ∀ a, x = .ok a → y = .ok a
theorem LeX.refl {α : Type} (x : Except Dg α) : LeX x x := fun _ h => h
theorem LeX.seq {α β : Type} {x y : Except Dg α} {k h : α → Except Dg β} (h1 : LeX x y) (h2 : ∀ a, LeX (k a) (h a)) : LeX (andT x k) (andT y h) := by
  intro b hb
  cases x with
  | error d => cases hb
  | ok a => rw [h1 a rfl]; exact h2 a b hb
theorem LeX.must {β : Type} {b c : Bool} {f : Int} {p : Po} {k h : Except Dg β} (hb : b = true → c = true) (hk : LeX k h) : LeX (mustP b f p k) (mustP c f p h) := by
  intro a ha
  cases b with
  | false => cases ha
  | true => rw [hb rfl]; exact hk a ha
theorem LeX.got {α β : Type} {o o' : Option α} {p : Po} {k h : α → Except Dg β} (ho : ∀ a, o = some a → o' = some a) (hk : ∀ a, LeX (k a) (h a)) : LeX (gotP o p k) (gotP o' p h) := by
  intro b hb
  cases o with
  | none => cases hb
  | some a => rw [ho a rfl]; exact hk a b hb
def LeL : List (Except Dg Tp) → List (Except Dg Tp) → Prop
  | [], [] => True
  | a :: l, b :: m => LeX a b ∧ LeL l m
  | _, _ => False
theorem LeX.one {β : Type} {l m : List (Except Dg Tp)} {f g : Except Dg Tp → Except Dg β} {z : Except Dg β} (h : LeL l m) (hk : ∀ a b, LeX a b → LeX (f a) (g b)) : LeX (oneK l f z) (oneK m g z) := by
  match l, m, h with
  | [], [], _ => exact .refl _
  | [a], [b], h => exact hk a b h.1
  | a :: a' :: l, b :: b' :: m, _ => exact .refl _
theorem LeX.two {β : Type} {l m : List (Except Dg Tp)} {f g : Except Dg Tp → Except Dg Tp → Except Dg β} {z : Except Dg β} (h : LeL l m) (hk : ∀ a b a' b', LeX a b → LeX a' b' → LeX (f a a') (g b b')) : LeX (twoK l f z) (twoK m g z) := by
  match l, m, h with
  | [], [], _ => exact .refl _
  | [a], [b], h => exact .refl _
  | [a, a'], [b, b'], h => exact hk a b a' b' h.1 h.2.1
  | a :: a' :: a'' :: l, b :: b' :: b'' :: m, _ => exact .refl _
theorem LeX.oneE {α β : Type} {l : List α} {f g : α → Except Dg β} {z : Except Dg β} (hk : ∀ a, LeX (f a) (g a)) : LeX (oneK l f z) (oneK l g z) := by
  match l with
  | [] => exact .refl _
  | [a] => exact hk a
  | _ :: _ :: _ => exact .refl _
theorem LeX.twoE {α β : Type} {l : List α} {f g : α → α → Except Dg β} {z : Except Dg β} (hk : ∀ a b, LeX (f a b) (g a b)) : LeX (twoK l f z) (twoK l g z) := by
  match l with
  | [] => exact .refl _
  | [a] => exact .refl _
  | [a, b] => exact hk a b
  | _ :: _ :: _ :: _ => exact .refl _
theorem LeX.ite {α : Type} {c : Prop} [Decidable c] {x y x' y' : Except Dg α} (h1 : LeX x x') (h2 : LeX y y') : LeX (if c then x else y) (if c then x' else y') := by
  split
  · exact h1
  · exact h2
theorem idxP_app {α : Type} {p : α → Bool} {l : List α} (r : List α) {i : Nat} : idxP p l = some i → idxP p (l ++ r) = some i := by
  induction l generalizing i with
  | nil => intro h; cases h
  | cons x l ih =>
    intro h
    simp only [idxP, List.cons_append] at h ⊢
    by_cases hx : p x = true
    · rw [if_pos hx] at h ⊢; exact h
    · rw [if_neg hx] at h ⊢
      cases hl : idxP p l with
      | none => rw [hl] at h; cases h
      | some j => rw [hl] at h; rw [ih hl]; exact h
theorem idxP_in {α : Type} {p : α → Bool} {l : List α} {i : Nat} : idxP p l = some i → i < l.length := by
  induction l generalizing i with
  | nil => intro h; cases h
  | cons x l ih =>
    intro h
    simp only [idxP] at h
    by_cases hx : p x = true
    · rw [if_pos hx] at h; cases h; simp
    · rw [if_neg hx] at h
      cases hl : idxP p l with
      | none => rw [hl] at h; cases h
      | some j =>
        rw [hl] at h
        cases h
        have := ih hl
        simp only [List.length_cons]
        omega
theorem idxN_none {α : Type} {p : α → Bool} {l : List α} (h : ¬ 0 ≤ idxN p l) : l.any p = false := by
  induction l with
  | nil => rfl
  | cons x l ih =>
    unfold idxN at h ih
    simp only [idxP] at h
    by_cases hx : p x = true
    · rw [if_pos hx] at h; exact absurd (Int.le_refl 0) h
    · rw [if_neg hx] at h
      cases hl : idxP p l with
      | none => rw [hl] at ih; simp only [List.any_cons, ih (by decide)]; simpa using hx
      | some j => rw [hl] at h; exact absurd (by simp; omega) h
/-- The second program has what the first one has, and more. -/
structure LeP (p q : Pr0) : Prop where
  s : ∃ r, q.structs = p.structs ++ r
  f : ∃ r, q.funcs = p.funcs ++ r
variable {p q : Pr0}
theorem LeP.struct (h : LeP p q) {n : Str} (hn : decide (0 ≤ idxN (nmS n) p.structs) = true) : decide (0 ≤ idxN (nmS n) q.structs) = true := by
  obtain ⟨r, hr⟩ := h.s
  unfold idxN at *
  cases hi : idxP (nmS n) p.structs with
  | none => rw [hi] at hn; cases hn
  | some i => rw [hr, idxP_app r hi]; simp
theorem LeP.known (h : LeP p q) {t : Tp} (hn : knownP p t = true) : knownP q t = true := by
  unfold knownP at *
  rcases Bool.or_eq_true _ _ ▸ hn with hn | hn
  · rw [hn]; rfl
  · rw [h.struct hn, Bool.or_true]
theorem LeP.field (h : LeP p q) {s n : Str} {x : Int × Tp} (hn : fieldP p s n = some x) : fieldP q s n = some x := by
  obtain ⟨r, hr⟩ := h.s
  unfold fieldP at *
  cases hi : idxP (nmS s) p.structs with
  | none => rw [hi] at hn; cases hn
  | some i =>
    rw [hi] at hn
    rw [hr, idxP_app r hi]
    simp only at hn ⊢
    rw [List.getElem?_append_left (idxP_in hi)]
    exact hn
theorem LeP.func (h : LeP p q) {n : Str} {x : Fn0} (hn : ((idxP (nmF n) p.funcs).bind fun i => p.funcs[i]?) = some x) : ((idxP (nmF n) q.funcs).bind fun i => q.funcs[i]?) = some x := by
  obtain ⟨r, hr⟩ := h.f
  cases hi : idxP (nmF n) p.funcs with
  | none => rw [hi] at hn; cases hn
  | some i =>
    rw [hi] at hn
    rw [hr, idxP_app r hi]
    simp only [Option.bind_some] at hn ⊢
    rw [List.getElem?_append_left (idxP_in hi)]
    exact hn
theorem argsK_le : ∀ (fs : List Fl0) (ks : List Ex0) (rs rs' : List (Except Dg Tp)), LeL rs rs' → LeX (argsK fs ks rs) (argsK fs ks rs')
  | q :: qs, x :: xs, r :: rs, r' :: rs', h => LeX.seq h.1 fun t => LeX.must id (argsK_le qs xs rs rs' h.2)
  | [], _, _, _, _ => by unfold argsK; exact .refl _
  | _ :: _, [], _, _, _ => by unfold argsK; exact .refl _
  | _ :: _, _ :: _, [], [], _ => by unfold argsK; exact .refl _
  | _ :: _, _ :: _, [], _ :: _, h => h.elim
  | _ :: _, _ :: _, _ :: _, [], h => h.elim
theorem memK_le (h : LeP p q) {β : Type} {x y : Except Dg Tp} (hx : LeX x y) (n : Str) (a b : Po) {k k' : Tp → Except Dg β} (hk : ∀ t, LeX (k t) (k' t)) : LeX (memK p x n a b k) (memK q y n a b k') := by
  unfold memK
  exact LeX.seq hx fun t => LeX.must id (LeX.got (fun _ hf => h.field hf) fun u => hk _)
theorem exprK_le (h : LeP p q) (env : List Fl0) (k : Int) (s op : Str) (at_ : Po) (ks : List Ex0) {rs rs' : List (Except Dg Tp)} (hr : LeL rs rs') : LeX (exprK p env k s op at_ ks rs) (exprK q env k s op at_ ks rs') := by
  unfold exprK
  refine LeX.ite (.refl _) (LeX.ite (LeX.one hr fun a b hab => memK_le h hab _ _ _ fun _ => .refl _) (LeX.ite ?_ (LeX.ite ?_ (LeX.ite (.refl _) (LeX.ite (LeX.must (fun hb => h.struct hb) (.refl _)) (LeX.ite ?_ (.refl _)))))))
  · exact LeX.twoE fun x y => LeX.two hr fun a b a' b' h1 h2 => LeX.seq h1 fun _ => LeX.seq h2 fun _ => .refl _
  · exact LeX.one hr fun a b hab => LeX.seq hab fun _ => .refl _
  · exact LeX.got (fun _ hf => h.func hf) fun f => LeX.must id (LeX.seq (argsK_le _ _ _ _ hr) fun _ => .refl _)
mutual
theorem exprP_le (h : LeP p q) (env : List Fl0) : ∀ e : Ex0, LeX (exprP p env e) (exprP q env e)
  | .mk k _ s op ks at_ => by
    simp only [exprP]
    exact exprK_le h env k s op at_ ks (exprsP_le h env ks)
theorem exprsP_le (h : LeP p q) (env : List Fl0) : ∀ l : List Ex0, LeL (exprsP p env l) (exprsP q env l)
  | [] => trivial
  | e :: l => ⟨exprP_le h env e, exprsP_le h env l⟩
end
theorem fitK_le (h : LeP p q) {β : Type} (env : List Fl0) (t : Tp) (e : Ex0) {k k' : Except Dg β} (hk : LeX k k') : LeX (fitK p env t e k) (fitK q env t e k') := LeX.seq (exprP_le h env e) fun _ => LeX.must id hk
theorem numK_le (h : LeP p q) {β : Type} (env : List Fl0) (e : Ex0) {k k' : Except Dg β} (hk : LeX k k') : LeX (numK p env e k) (numK q env e k') := LeX.seq (exprP_le h env e) fun _ => LeX.must id hk
theorem stmtK_le (h : LeP p q) (ret : Tp) (inn : Int) (env : List Fl0) (k : Int) (t : Tp) (n : Str) (es : List Ex0) (at_ : Po) {rb rb' : Int → Except Dg (List Fl0)} {rl rl' : Except Dg (List Fl0)} (hb : ∀ i, LeX (rb i) (rb' i)) (hl : LeX rl rl') : LeX (stmtK p ret inn env k t n es at_ rb rl) (stmtK q ret inn env k t n es at_ rb' rl') := by
  unfold stmtK
  refine LeX.ite ?_ (LeX.ite ?_ (LeX.ite ?_ (LeX.ite ?_ (LeX.ite ?_ (LeX.ite (.refl _) (LeX.ite ?_ (LeX.ite (.refl _) (LeX.ite ?_ (LeX.ite ?_ (.refl _))))))))))
  · exact LeX.oneE fun x => LeX.must (fun hk => h.known hk) (fitK_le h _ _ _ (.refl _))
  · exact LeX.oneE fun x => LeX.got (fun _ hf => hf) fun u => fitK_le h _ _ _ (.refl _)
  · exact LeX.twoE fun x y => memK_le h (exprP_le h _ _) _ _ _ fun u => fitK_le h _ _ _ (.refl _)
  · exact LeX.oneE fun x => numK_le h _ _ (LeX.seq (hb _) fun _ => LeX.seq hl fun _ => .refl _)
  · exact LeX.oneE fun x => numK_le h _ _ (LeX.seq (hb _) fun _ => .refl _)
  · exact LeX.oneE fun x => fitK_le h _ _ _ (.refl _)
  · exact LeX.oneE fun x => numK_le h _ _ (.refl _)
  · exact LeX.oneE fun x => LeX.seq (exprP_le h _ _) fun _ => .refl _
mutual
theorem stmtP_le (h : LeP p q) (ret : Tp) : ∀ (s : St0) (inn : Int) (env : List Fl0), LeX (stmtP p ret inn env s) (stmtP q ret inn env s)
  | .mk k t n es b l at_, inn, env => by
    simp only [stmtP]
    exact stmtK_le h ret inn env k t n es at_ (fun i => blockP_le h ret b i env false) (blockP_le h ret l inn env false)
theorem blockP_le (h : LeP p q) (ret : Tp) : ∀ (l : List St0) (inn : Int) (env : List Fl0) (over : Bool), LeX (blockP p ret inn env over l) (blockP q ret inn env over l)
  | [], inn, env, over => by simp only [blockP]; exact .refl _
  | s :: l, inn, env, over => by
    simp only [blockP]
    exact LeX.must id (LeX.seq (stmtP_le h ret s inn env) fun env' => blockP_le h ret l inn env' (overP s))
end
theorem paramsP_le (h : LeP p q) : ∀ (l env : List Fl0), LeX (paramsP p env l) (paramsP q env l)
  | [], env => by simp only [paramsP]; exact .refl _
  | x :: l, env => by
    simp only [paramsP]
    exact LeX.must (fun hk => h.known hk) (LeX.must id (paramsP_le h l _))
theorem functionP_le (h : LeP p q) (f : Fn0) : LeX (functionP p f) (functionP q f) := by
  unfold functionP
  exact LeX.seq (paramsP_le h _ _) fun env => LeX.must (fun hk => h.known hk) (LeX.seq (blockP_le h _ _ _ _ _) fun _ => .refl _)
theorem fieldsP_le (h : LeP p q) : ∀ (l pre : List Fl0), LeX (fieldsP p pre l) (fieldsP q pre l)
  | [], pre => by simp only [fieldsP]; exact .refl _
  | x :: l, pre => by
    simp only [fieldsP]
    exact LeX.must id (LeX.must (fun hk => h.known hk) (fieldsP_le h l _))
theorem structsK_le (h : LeP p q) : ∀ (l pre : List Sr0), LeX (structsK p pre l) (structsK q pre l)
  | [], pre => by simp only [structsK]; exact .refl _
  | x :: l, pre => by
    simp only [structsK]
    exact LeX.must id (LeX.seq (fieldsP_le h _ _) fun _ => structsK_le h l _)
theorem functionsK_le (h : LeP p q) : ∀ (l : List Fn0), LeX (functionsK p l) (functionsK q l)
  | [] => by simp only [functionsK]; exact .refl _
  | x :: l => by
    simp only [functionsK]
    exact LeX.seq (functionP_le h _) fun _ => functionsK_le h l
theorem structsK_snoc (p : Pr0) (z : Sr0) : ∀ (l pre : List Sr0), structsK p pre (l ++ [z]) = andT (structsK p pre l) fun _ => structsK p (pre ++ l) [z]
  | [], pre => by simp [structsK, andT]
  | x :: l, pre => by
    simp only [List.cons_append, structsK, structsK_snoc p z l]
    cases (!pre.any (nmS x.name)) with
    | false => rfl
    | true =>
      cases fieldsP p [] x.fields with
      | error d => rfl
      | ok u => simp [mustP, andT, structsK]
theorem namesK_snoc (z : Fn0) : ∀ (l pre : List Fn0), namesK pre (l ++ [z]) = andT (namesK pre l) fun _ => namesK (pre ++ l) [z]
  | [], pre => by simp [namesK, andT]
  | x :: l, pre => by
    simp only [List.cons_append, namesK, namesK_snoc z l]
    cases (!pre.any (nmF x.name)) with
    | false => rfl
    | true => simp [mustP, andT, namesK]
theorem functionsK_snoc (p : Pr0) (z : Fn0) : ∀ (l : List Fn0), functionsK p (l ++ [z]) = andT (functionsK p l) fun _ => functionsK p [z]
  | [] => by simp [functionsK, andT]
  | x :: l => by
    simp only [List.cons_append, functionsK, functionsK_snoc p z l]
    cases functionP p x with
    | error d => rfl
    | ok u => simp [andT, functionsK]
/-- 'return 0;' -/
def zeroB : List St0 := [.mk 8 ⟨false, []⟩ [] [.mk 1 0 [] [] [] ⟨0, 0⟩] [] [] ⟨0, 0⟩]
def zeroF (n : Str) (a : Po) : Fn0 := ⟨n, [], ⟨false, []⟩, zeroB, a⟩
theorem zeroF_ok (p : Pr0) (n : Str) (a : Po) : functionP p (zeroF n a) = .ok () := rfl
theorem andT_inv {α β : Type} {x : Except Dg α} {k : α → Except Dg β} {b : β} (h : andT x k = .ok b) : ∃ a, x = .ok a ∧ k a = .ok b := by
  cases x with
  | error d => cases h
  | ok a => exact ⟨a, rfl, h⟩
theorem limS_ok {l : List Sr0} (h : l.length ≤ 30) : limS l = .ok () := by unfold limS; rw [List.getElem?_eq_none (by omega)]
theorem limF_ok {l : List Fn0} (h : l.length ≤ 60) : limF l = .ok () := by unfold limF; rw [List.getElem?_eq_none (by omega)]
theorem mainB_le (h : LeP p q) (hm : mainB p = true) : mainB q = true := by
  unfold mainB at *
  cases hi : (idxP (nmF [109, 97, 105, 110]) p.funcs).bind fun i => p.funcs[i]? with
  | none => rw [hi] at hm; cases hm
  | some f => rw [hi] at hm; rw [h.func hi]; exact hm
/-- A program that is right is so with one more struct and function, of names that it has not. -/
theorem checkP_more {zs zf : Str} (hc : checkP p = .ok ()) (h1 : ¬ 0 ≤ idxN (nmS zs) p.structs) (h2 : ¬ 0 ≤ idxN (nmF zf) p.funcs) (h3 : p.structs.length < 30) (h4 : p.funcs.length < 60) (a b : Po) :
    checkP ⟨p.structs ++ [⟨zs, [], a⟩], p.funcs ++ [zeroF zf b]⟩ = .ok () := by
  have hle : LeP p ⟨p.structs ++ [⟨zs, [], a⟩], p.funcs ++ [zeroF zf b]⟩ := ⟨⟨_, rfl⟩, ⟨_, rfl⟩⟩
  unfold checkP at hc ⊢
  obtain ⟨_, c1, c2⟩ := andT_inv hc
  unfold structsP at c1 ⊢
  unfold funcsP at c2 ⊢
  obtain ⟨_, _, c1⟩ := andT_inv c1
  obtain ⟨_, _, c2⟩ := andT_inv c2
  obtain ⟨_, c3, c2⟩ := andT_inv c2
  obtain ⟨_, c4, c2⟩ := andT_inv c2
  have hm : mainB p = true := by
    cases hm : mainB p with
    | true => rfl
    | false => rw [hm] at c2; cases c2
  have e1 := structsK_le hle _ _ _ c1
  have e4 := functionsK_le hle _ _ c4
  have e5 := mainB_le hle hm
  generalize hq : (⟨p.structs ++ [⟨zs, [], a⟩], p.funcs ++ [zeroF zf b]⟩ : Pr0) = q at e1 e4 e5 hle ⊢
  have hs : q.structs = p.structs ++ [⟨zs, [], a⟩] := by rw [← hq]
  have hf : q.funcs = p.funcs ++ [zeroF zf b] := by rw [← hq]
  have d1 : structsK q [] q.structs = .ok () := by
    rw [hs, structsK_snoc, e1]
    simp only [andT, List.nil_append, structsK, idxN_none h1, fieldsP]
    rfl
  have d2 : namesK [] q.funcs = .ok () := by
    rw [hf, namesK_snoc, c3]
    have := idxN_none h2
    simp only [andT, List.nil_append, namesK, zeroF, this]
    rfl
  have d3 : functionsK q q.funcs = .ok () := by
    rw [hf, functionsK_snoc, e4]
    simp only [andT, functionsK, zeroF_ok]
  rw [limS_ok (by rw [hs]; simp; omega), limF_ok (by rw [hf]; simp; omega), d1, d2, d3, e5]
  rfl
end Go.Proofs.Ythfollapianblaa
