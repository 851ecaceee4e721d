/- Lines that hold no line's end. Conditions: none. -/
import Derived.Test.YtdpkdeimliohmaaDoorK10
set_option linter.unusedSimpArgs false
set_option linter.unusedVariables false
namespace Go.Proofs.YtdpkdeimliohmaaDoor
open Go Go.Ab
def NoNl (s : Str) : Prop := (10 : UInt8) ∉ s
theorem NoNl.app {a b : Str} (ha : NoNl a) (hb : NoNl b) : NoNl (a ++ b) := fun h => by
  rcases List.mem_append.1 h with h | h
  · exact ha h
  · exact hb h
theorem nonl_dec : ∀ n : Nat, NoNl (Lib.decDigits n) := fun n => by
  induction n using Nat.strongRecOn with
  | ind n ih =>
    rw [Lib.decDigits]
    have key : ∀ k, k < 10 → NoNl [UInt8.ofNat (48 + k)] := by
      intro k hk h
      have : (10 : UInt8) = UInt8.ofNat (48 + k) := by simpa using h
      have := congrArg UInt8.toNat this
      rw [UInt8.toNat_ofNat'] at this
      have h10 : (10 : UInt8).toNat = 10 := rfl
      omega
    split
    · exact key n (by omega)
    · exact (ih (n / 10) (by omega)).app (key _ (by omega))
theorem nonl_itoa {n : Int} (h : okN n) : NoNl (Lib.itoa n) := by
  unfold Lib.itoa
  rw [if_neg (by have := h.1; omega)]
  exact nonl_dec _
theorem nonl_brk {b : Bool} {s : Str} (h : NoNl s) : NoNl (brk b s) := by
  unfold brk
  split
  · exact (NoNl.app (by simp [NoNl]) h).app (by simp [NoNl])
  · exact h
theorem nonl_getD {l : List Str} (h : ∀ x, x ∈ l → NoNl x) (i : Nat) : NoNl (l.getD i []) := by
  rw [List.getD_eq_getElem?_getD]
  cases hi : l[i]? with
  | none => simp [NoNl]
  | some x => exact h x (List.mem_of_getElem? hi)
theorem nonl_join {sep : Str} (hs : NoNl sep) : ∀ {l : List Str}, (∀ x, x ∈ l → NoNl x) → NoNl (joinL sep l)
  | [], _ => by simp [joinL, NoNl]
  | [x], h => by simpa [joinL] using h x (by simp)
  | x :: y :: l, h => by
    simp only [joinL]
    exact ((h x (by simp)).app hs).app (nonl_join hs (fun z hz => h z (by simp at hz ⊢; exact .inr hz)))
mutual
theorem nonl_E : ∀ (e : Ex0), okE e → NoNl (showE e)
  | .mk k n s o ks p, h => by
    obtain ⟨⟨hn, hs, ho⟩, _, hk⟩ := h
    have hks := nonl_Es ks hk
    have hs : NoNl s := hs.2
    have ho : NoNl o := ho.2
    simp only [showE]
    unfold showK
    have c1 : NoNl [45, 62] := by simp [NoNl]
    have c2 : NoNl [32] := by simp [NoNl]
    split
    · exact nonl_itoa hn
    split
    · exact hs
    split
    · exact ((nonl_brk (nonl_getD hks 0)).app c1).app hs
    split
    · exact ((((nonl_brk (nonl_getD hks 0)).app c2).app ho).app c2).app (nonl_brk (nonl_getD hks 1))
    split
    · exact ho.app (nonl_brk (nonl_getD hks 0))
    split
    · simp [NoNl]
    split
    · exact NoNl.app (by simp [NoNl]) hs
    split
    · simp [NoNl]
    · exact ((hs.app (by simp [NoNl])).app (nonl_join (by simp [NoNl]) hks)).app (by simp [NoNl])
theorem nonl_Es : ∀ (l : List Ex0), okEs l → ∀ x, x ∈ showEs l → NoNl x
  | [], _, x, h => by simp [showEs] at h
  | e :: l, ho, x, h => by
    simp only [showEs, List.mem_cons] at h
    rcases h with rfl | h
    · exact nonl_E e ho.1
    · exact nonl_Es l ho.2 x h
end
theorem nonl_typ {t : Tp} (h : okT t.to) : NoNl (typT t) := by
  unfold typT
  split
  · exact NoNl.app h.2 (by simp [NoNl])
  · simp [NoNl]
theorem nonl_pad (n : Nat) : NoNl (padP n) := by
  unfold padP NoNl
  intro h
  have := (List.mem_replicate.1 h).2
  exact absurd this (by decide)
def AllNl (l : List Str) : Prop := ∀ x, x ∈ l → NoNl x
theorem AllNl.app {a b : List Str} (ha : AllNl a) (hb : AllNl b) : AllNl (a ++ b) := fun x h => by
  rcases List.mem_append.1 h with h | h
  · exact ha x h
  · exact hb x h
theorem AllNl.one {x : Str} (h : NoNl x) : AllNl [x] := fun y hy => by cases List.mem_singleton.1 hy; exact h
theorem nonl_K {n : Nat} {k : Int} {t : Tp} {nm : Str} {es bl ll : List Str} {els : Bool} (ht : okT t.to) (hn : okT nm) (he : AllNl es) (hb : AllNl bl) (hl : AllNl ll) : AllNl (linK n k t nm es bl ll els) := by
  have p := nonl_pad n
  have t1 := nonl_typ ht
  have n1 : NoNl nm := hn.2
  have x0 := nonl_getD he 0
  have x1 := nonl_getD he 1
  unfold linK
  generalize padP n = pd at *
  generalize typT t = tt at *
  generalize es.getD 0 [] = e0 at *
  generalize es.getD 1 [] = e1 at *
  have c : ∀ s : Str, (10 : UInt8) ∉ s → NoNl s := fun _ h => h
  split
  · exact .one ((((((p.app t1).app (c _ (by simp))).app n1).app (c _ (by simp))).app x0).app (c _ (by simp)))
  split
  · exact .one ((((p.app n1).app (c _ (by simp))).app x0).app (c _ (by simp)))
  split
  · exact .one ((((((p.app x0).app (c _ (by simp))).app n1).app (c _ (by simp))).app x1).app (c _ (by simp)))
  split
  · refine (((AllNl.one (((p.app (c _ (by simp))).app x0).app (c _ (by simp)))).app hb).app ?_).app (.one (p.app (c _ (by simp))))
    split
    · exact (AllNl.one (p.app (c _ (by simp)))).app hl
    · intro x hx; cases hx
  split
  · exact ((AllNl.one (((p.app (c _ (by simp))).app x0).app (c _ (by simp)))).app hb).app (.one (p.app (c _ (by simp))))
  split
  · exact .one (p.app (c _ (by simp)))
  split
  · exact .one (p.app (c _ (by simp)))
  split
  · exact .one (((p.app (c _ (by simp))).app x0).app (c _ (by simp)))
  split
  · exact .one (((p.app (c _ (by simp))).app n1).app (c _ (by simp)))
  split
  · exact .one (((p.app (c _ (by simp))).app x0).app (c _ (by simp)))
  · exact .one ((p.app x0).app (c _ (by simp)))
mutual
theorem nonl_S : ∀ (n : Nat) (s : St0), okS s → AllNl (linS n s)
  | n, .mk k t nm e b l p, h => by
    obtain ⟨⟨h1, h2⟩, _, h4, _, h6, h7⟩ := h
    exact nonl_K h1 h2 (by rw [← showEs_map]; exact nonl_Es e h4) (nonl_L (n + 1) b h6) (nonl_L (n + 1) l h7)
theorem nonl_L : ∀ (n : Nat) (l : List St0), okSs l → AllNl (linL n l)
  | n, [], _ => fun x hx => by simp [linL] at hx
  | n, s :: l, h => by
    simp only [linL]
    exact (nonl_S n s h.1).app (nonl_L n l h.2)
end
theorem nonl_P {p : Pr0} (hp : OkP p) : AllNl (linP p) := by
  have c : ∀ s : Str, (10 : UInt8) ∉ s → NoNl s := fun _ h => h
  unfold linP
  refine AllNl.app (fun x hx => ?_) (fun x hx => ?_)
  · obtain ⟨ls, h1, h2⟩ := List.mem_flatten.1 hx
    obtain ⟨s, h3, rfl⟩ := List.mem_map.1 h1
    obtain ⟨a1, a2⟩ := hp.snm s h3
    refine AllNl.app (.app (.one (((c _ (by simp) : NoNl _).app a1.2).app (c _ (by simp)))) ?_) (.one (c _ (by simp))) x h2
    intro y hy
    obtain ⟨f, h4, rfl⟩ := List.mem_map.1 hy
    obtain ⟨b1, b2⟩ := a2 f h4
    exact ((((c _ (by simp) : NoNl [32, 32]).app (nonl_typ b2)).app (c _ (by simp))).app b1.2).app (c _ (by simp))
  · obtain ⟨ls, h1, h2⟩ := List.mem_flatten.1 hx
    obtain ⟨f, h3, rfl⟩ := List.mem_map.1 h1
    obtain ⟨a1, a2, a3⟩ := hp.fnm f h3
    refine AllNl.app (.app (.one ?_) (nonl_L 1 f.body (hp.ok f h3))) (.one (c _ (by simp))) x h2
    refine (((((nonl_typ a2).app (c _ (by simp))).app a1.2).app (c _ (by simp))).app (nonl_join (c _ (by simp)) ?_)).app (c _ (by simp))
    intro y hy
    obtain ⟨q, h4, rfl⟩ := List.mem_map.1 hy
    obtain ⟨b1, b2⟩ := a3 q h4
    exact ((nonl_typ b2).app (c _ (by simp))).app b1.2
/-- A text's lines. -/
def splitN : Str → Str → List Str
  | _, [] => []
  | cur, c :: l => if c = 10 then cur :: splitN [] l else splitN (cur ++ [c]) l
theorem splitN_line : ∀ (x cur rest : Str), NoNl x → splitN cur (x ++ 10 :: rest) = (cur ++ x) :: splitN [] rest
  | [], cur, rest, _ => by simp [splitN]
  | c :: x, cur, rest, h => by
    have hc : c ≠ 10 := fun e => h (by simp [e])
    simp only [List.cons_append, splitN, if_neg hc]
    rw [splitN_line x (cur ++ [c]) rest (fun hm => h (by simp [hm]))]
    simp
theorem splitN_txt : ∀ {ls : List Str}, AllNl ls → splitN [] (txtL ls) = ls
  | [], _ => rfl
  | x :: ls, h => by
    have e : txtL (x :: ls) = x ++ 10 :: txtL ls := by simp [txtL]
    rw [e, splitN_line x [] _ (h x (by simp)), splitN_txt (fun y hy => h y (by simp [hy]))]
    simp
end Go.Proofs.YtdpkdeimliohmaaDoor
