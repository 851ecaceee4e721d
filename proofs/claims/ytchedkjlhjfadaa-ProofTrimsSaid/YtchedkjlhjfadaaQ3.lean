/- Law 16: whether steps are a proof; steps as they are. Conditions: none. -/
import Derived.Test.YtchedkjlhjfadaaQ2
set_option linter.unusedSimpArgs false
set_option linter.unusedVariables false
namespace Go.Proofs.Ytchedkjlhjfadaa
open Go Go.Ab
variable {ext : Sem'}
theorem indexc0_e (hx : TX ext) (F : Nat) (p : List Int → Bool) (l : List (List Int)) (hl : l.length ≤ 1000000) (hp : ∀ x, x ∈ l → G ext F [.d (.sl (x.map rowI))] [] = some (.ret (.d (.bool (p x))), [])) :
    G ext 68 [.d (.sl (l.map rowC)), .fn F [] []] [] = some (.ret (.d (.int .i64 (idxN p l))), []) := by
  have hll : (l.map rowC).length = l.length := List.length_map _
  rw [G_body hx.clear rfl Try.func68 rfl Try.results68 hv_68 rfl]
  simp (config := { maxSteps := 4000000 }) (disch := first | (intros; contradiction) | omega) only [go_sem]
  generalize hL : loopA _ _ _ = L
  apply range_upd hL (by simp (config := { maxSteps := 4000000 }) (disch := first | (intros; contradiction) | omega) only [go_sem] <;> rfl) l rowC (α := Unit) (fun rest k _ => idxP p l = (idxP p rest).map (k + ·)) (fun k _ => [(5, .any), (8, .d (.int .i64 k))]) (fun _ _ => []) () (by simp (config := { maxSteps := 4000000 }) (disch := first | (intros; contradiction) | omega) only [go_sem] <;> rfl) (by simp) ?_ ?_
  · intro x rest k _ hi hlt hr hxx hk _ next ih
    clear hL
    have hc := hp x (List.mem_of_getElem? hxx)
    simp only [rowC] at hr
    simp only [idxP] at hi
    cases hpx : p x with
    | true =>
      rw [hpx] at hc hi
      have h1 : idxN p l = k := by unfold idxN; rw [hi]; simp
      rw [h1]
      simp (config := { maxSteps := 4000000 }) (disch := first | (intros; contradiction) | omega) only [go_sem, hlt, hr, hc]
    | false =>
      rw [hpx] at hc hi
      simp (config := { maxSteps := 4000000 }) (disch := first | (intros; contradiction) | omega) only [go_sem, hlt, hr, hc, wrap64]
      exact ih () _ (by rw [hi]; simp only [Bool.false_eq_true, if_false, Option.map_map]; congr 1; funext n; simp only [Function.comp]; omega) (by simp (config := { maxSteps := 4000000 }) (disch := first | (intros; contradiction) | omega) only [go_sem] <;> rfl)
  · intro k _ hi hlt hk next
    clear hL
    have h1 : idxN p l = -1 := by unfold idxN; rw [hi]; rfl
    rw [h1]
    simp (config := { maxSteps := 4000000 }) (disch := first | (intros; contradiction) | omega) only [go_sem, hlt]
theorem clauses0_e (hx : TXP ext) (f : Fm) (hs : Short f) (hr : rightP f = false) (l : List Ps) : G ext 67 [f.av, .d (.sl (l.map rowS))] [] = some (.ret (.tuple [.d (.sl []), .d (.bool false)]), []) := by
  have hrt := right_e hx.toTX f hs
  rw [hr] at hrt
  simp only [Fm.av] at hrt
  have hx := hx.toTX
  rw [G_body hx.clear rfl Try.func67 rfl Try.results67 hv_67 rfl]
  simp only [Fm.av]
  simp (config := { maxSteps := 4000000 }) (disch := first | (intros; contradiction) | omega) only [go_sem, hrt]
theorem empty1_e (hx : TX ext) (c : List Int) : G ext 70 [.d (.sl (c.map rowI))] [] = some (.ret (.d (.bool c.isEmpty)), []) := by
  have hcl : (c.map rowI).length = c.length := List.length_map _
  rw [G_body hx.clear rfl Try.func70 rfl Try.results70 hv_70 rfl]
  cases c with
  | nil => simp (config := { maxSteps := 4000000 }) (disch := first | (intros; contradiction) | omega) only [go_sem, List.isEmpty_nil, List.map_nil, List.length_nil]
  | cons x c =>
    have h : ¬ (((c.map rowI).length + 1 : Nat) : Int) = 0 := by omega
    simp (config := { maxSteps := 4000000 }) (disch := first | (intros; contradiction) | omega) only [go_sem, List.isEmpty_cons, List.map_cons, List.length_cons, h]
/-- The first empty clause. -/
def emptyP (f : Fm) (l : List Ps) : Int := if rightP f = true ∧ (clsP f.l [] l).2 = true then idxN List.isEmpty (f.l ++ (clsP f.l [] l).1) else -1
theorem clsP_len {fl : List (List Int)} : ∀ {l : List Ps} {o : List (List Int)}, (clsP fl o l).1.length ≤ o.length + l.length
  | [], o => by simp [clsP]
  | s :: l, o => by
    simp only [clsP]
    split
    · simp
    · split
      · have := clsP_len (fl := fl) (l := l) (o := o ++ [‹_›]); simp at this ⊢; omega
      · simp
/-- Steps whose clauses are not too long. -/
def Fits (f : Fm) (l : List Ps) : Prop := l.length ≤ 5000 ∧ (∀ s, s ∈ l → s.on ≤ 9223372036854775807) ∧ ∀ l' out, l' <+: l → clsP f.l [] l' = (out, true) → ∀ c, c ∈ f.l ++ out → c.length ≤ 100000
theorem empty_e (hx : TXP ext) (f : Fm) (hs : Short f) (l : List Ps) (hf : rightP f = true → Fits f l) : G ext 47 [f.av, .d (.sl (l.map rowS))] [] = some (.ret (.d (.int .i64 (emptyP f l))), []) := by
  have hfs := hs.l
  unfold emptyP
  cases hr : rightP f with
  | false =>
    have hc := clauses0_e hx f hs hr l
    rw [if_neg (by simp)]
    simp only [Fm.av] at hc ⊢
    have hx := hx.toTX
    rw [G_body hx.clear rfl Try.func47 rfl Try.results47 hv_47 rfl]
    simp (config := { maxSteps := 4000000 }) (disch := first | (intros; contradiction) | omega) only [go_sem, hc]
  | true =>
    obtain ⟨f1, f2, f3⟩ := hf hr
    have hc := clauses_e hx f hs hr l (by omega) f2 f3
    have hlen := clsP_len (fl := f.l) (l := l) (o := [])
    generalize clsP f.l [] l = r at hc hlen ⊢
    obtain ⟨out, b⟩ := r
    simp only [List.length_nil, Nat.zero_add] at hc hlen ⊢
    cases b with
    | false =>
      rw [if_neg (by simp)]
      simp only [Fm.av] at hc ⊢
      have hx := hx.toTX
      rw [G_body hx.clear rfl Try.func47 rfl Try.results47 hv_47 rfl]
      simp (config := { maxSteps := 4000000 }) (disch := first | (intros; contradiction) | omega) only [go_sem, hc]
    | true =>
      rw [if_pos (by simp)]
      have hcc := G_ext (hx.conc2 f.l out (by omega) (by omega))
      have hix := indexc0_e hx.toTX 70 List.isEmpty (f.l ++ out) (by rw [List.length_append]; omega) (fun c _ => empty1_e hx.toTX c)
      simp only [Fm.av, rowL, List.map_cons, List.map_nil] at hc hcc ⊢
      have hx := hx.toTX
      rw [G_body hx.clear rfl Try.func47 rfl Try.results47 hv_47 rfl]
      simp (config := { maxSteps := 4000000 }) (disch := first | (intros; contradiction) | omega) only [go_sem, hc, hcc, hix]
      done
theorem idxN_lo {α : Type} {p : α → Bool} {l : List α} : -1 ≤ idxN p l := by
  unfold idxN
  split <;> omega
theorem check_e (hx : TXP ext) (f : Fm) (hs : Short f) (l : List Ps) (hf : rightP f = true → Fits f l) : G ext 18 [f.av, .d (.sl (l.map rowS))] [] = some (.ret (.d (.bool (decide (emptyP f l ≠ -1)))), []) := by
  have he := empty_e hx f hs l hf
  generalize emptyP f l = e at he
  simp only [Fm.av] at he ⊢
  have hx := hx.toTX
  rw [G_body hx.clear rfl Try.func18 rfl Try.results18 hv_18 rfl]
  simp (config := { maxSteps := 4000000 }) (disch := first | (intros; contradiction) | omega) only [go_sem, he]
end Go.Proofs.Ytchedkjlhjfadaa
