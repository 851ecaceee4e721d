/- Law 16: what is known besides; the example; Law 16: what steps are of clauses; Law 16: whether steps are a proof; steps as they are; Law 16: steps as the document's, and back; which are few and small; Law 16: steps that are checked are of a formula that no model satisfies. Conditions: none. -/
import Derived.Test.YtchedkjlhjfadaaCB
set_option linter.unusedSimpArgs false
set_option linter.unusedVariables false
namespace Go.Proofs.Ytchedkjlhjfadaa
open Go Go.Ab
variable {ext : Sem'}
def rowL (l : List (List Int)) : List Dt := [.sl (l.map rowC)]
/-- What is known besides, of lists of clauses. -/
structure TXP (ext : Sem') : Prop extends TX ext where
  clone2 : ∀ l : List (List Int), l.length ≤ 1000000 → ext 42 [.d (.sl (l.map rowC))] [] = some (.ret (.grow 0 0 (l.map rowC)), [.grow 0 1])
  conc2 : ∀ a b : List (List Int), a.length ≤ 10000 → b.length ≤ 10000 → ext 69 [.d (.sl ([a, b].map rowL))] [] = some (.ret (.d (.sl ((a ++ b).map rowC))), [])
theorem fnil : ∀ x, x ∈ ([] : List Fact) → G ext x.f x.as x.H = some x.r := fun _ h => by cases h
theorem fcons {f : Nat} {xs : List AV} {H : List AObj} {r : Out × List AObj} {t : List Fact} (h : G ext f xs H = some r) (ht : ∀ x, x ∈ t → G ext x.f x.as x.H = some x.r) : ∀ x, x ∈ (⟨f, xs, H, r⟩ : Fact) :: t → G ext x.f x.as x.H = some x.r := fun x hx => by
  rcases List.mem_cons.1 hx with rfl | hx
  · exact h
  · exact ht x hx
set_option maxRecDepth 100000 in
theorem alive16_e (hx : TXP ext) : G ext 11 [] [] = some (.ret (.d (.bool true)), []) := by
  have h1 := resolve_e hx.toTX [-1] [1] 1 (by decide) (by decide) (by decide)
  have h2 := resolve_e hx.toTX [1] [-1] 1 (by decide) (by decide) (by decide)
  rw [show resolveP [-1] [1] 1 = none by decide] at h1
  rw [show resolveP [1] [-1] 1 = some [] by decide] at h2
  have h3 := G_ext (hx.clone2 [[1], [-1]] (by decide))
  have h4 := G_ext (hx.conc2 [[1], [-1]] [[]] (by decide) (by decide))
  have h5 := G_ext (hx.conc2 [[1], [-1]] [] (by decide) (by decide))
  exact G_runT hx.clear _ (fcons h1 (fcons h2 (fcons h3 (fcons h4 (fcons h5 fnil))))) 12 14 (by kernel_rfl)
end Go.Proofs.Ytchedkjlhjfadaa
namespace Go.Proofs.Ytchedkjlhjfadaa
open Go Go.Ab
variable {ext : Sem'}
/-- A step. -/
structure Ps where
  a : Int
  b : Int
  on : Int
  deriving DecidableEq
def rowS (s : Ps) : List Dt := [.int .i64 s.a, .int .i64 s.b, .int .i64 s.on]
set_option maxHeartbeats 1000000 in
theorem resolveB_e (hx : TX ext) (a b : List Int) (v : Int) (ha : a.length ≤ 100000) (hb : b.length ≤ 100000) (hv : v ≤ 9223372036854775807) : G ext 93 [.d (.sl (a.map rowI)), .d (.sl (b.map rowI)), .d (.int .i64 v)] [] = some (.ret (resA (resolveP a b v)), []) := by
  have h1 := containsv_e hx a v (by omega)
  have h2 := containsv_e hx b (0 - v) (by omega)
  have hla : (withoutP v a).length ≤ a.length := List.length_filter_le _ _
  have hlb : (withoutP (0 - v) b).length ≤ b.length := List.length_filter_le _ _
  have hn := norm_e hx (withoutP v a ++ withoutP (0 - v) b) (by rw [List.length_append]; omega)
  have hroom : room (((withoutP v a).map rowI).length + ((withoutP (0 - v) b).map rowI).length) 8 := by
    have := room_n8 (n := (withoutP v a).length + (withoutP (0 - v) b).length) (by omega)
    simpa only [List.length_map] using this
  have hfit : fits 1 ((withoutP (0 - v) b).map rowI) := by intro row h; obtain ⟨x, _, rfl⟩ := List.mem_map.1 h; rfl
  rw [G_body hx.clear rfl Try.func93 rfl Try.results93 hv_93 rfl]
  unfold resolveP
  rw [List.map_append] at hn
  by_cases g1 : v < 1
  · rw [if_pos (.inl g1)]
    simp only [resA]
    simp (config := { maxSteps := 4000000 }) (disch := first | (intros; contradiction) | omega) only [go_sem, g1]
  · cases g2 : hasP a v with
    | false =>
      rw [g2] at h1
      rw [if_pos (.inr (.inl rfl))]
      simp only [resA]
      simp (config := { maxSteps := 4000000 }) (disch := first | (intros; contradiction) | omega) only [go_sem, g1, h1]
    | true =>
      rw [g2] at h1
      cases g3 : hasP b (0 - v) with
      | false =>
        rw [g3] at h2
        rw [if_pos (.inr (.inr rfl))]
        simp only [resA]
        simp (config := { maxSteps := 4000000 }) (disch := first | (intros; contradiction) | omega) only [go_sem, g1, h1, h2, wrap64]
      | true =>
        rw [g3] at h2
        rw [if_neg (by simp; omega)]
        have w1 := G_ext (hx.without a v (by rintro rfl; cases g2) (by omega))
        have w2 := G_ext (hx.without b (0 - v) (by rintro rfl; cases g3) (by omega))
        rw [show (a.filter fun y => decide (y ≠ v)) = withoutP v a from rfl] at w1
        rw [show (b.filter fun y => decide (y ≠ 0 - v)) = withoutP (0 - v) b from rfl] at w2
        cases g4 : cleanL (normL (withoutP v a ++ withoutP (0 - v) b)) with
        | true =>
          rw [g4] at hn
          simp only [if_true, resA]
          simp (config := { maxSteps := 4000000 }) (disch := first | (intros; contradiction) | omega) only [go_sem, g1, h1, h2, wrap64, w1, w2, hroom, hfit, hn]
        | false =>
          rw [g4] at hn
          simp only [Bool.false_eq_true, if_false, resA]
          simp (config := { maxSteps := 4000000 }) (disch := first | (intros; contradiction) | omega) only [go_sem, g1, h1, h2, wrap64, w1, w2, hroom, hfit, hn]
/-- The clauses of steps. -/
def clsP (fl : List (List Int)) : List (List Int) → List Ps → List (List Int) × Bool
  | out, [] => (out, true)
  | out, s :: l =>
    if min s.a s.b < 0 ∨ ((fl ++ out).length : Int) ≤ max s.a s.b then (out, false) else
    match resolveP ((fl ++ out).getD s.a.toNat []) ((fl ++ out).getD s.b.toNat []) s.on with
    | some c => clsP fl (out ++ [c]) l
    | none => (out, false)
theorem clsP_app {fl : List (List Int)} {out : List (List Int)} {l2 : List Ps} : ∀ {l1 : List Ps} {o : List (List Int)}, clsP fl o l1 = (out, true) → clsP fl o (l1 ++ l2) = clsP fl out l2
  | [], o, h => by
    simp only [clsP, Prod.mk.injEq, and_true] at h
    rw [h]; rfl
  | s :: l1, o, h => by
    simp only [List.cons_append, clsP] at h ⊢
    split at h
    · simp at h
    · rename_i hc
      rw [if_neg hc]
      split at h
      · rename_i c hr
        exact clsP_app h
      · simp at h
set_option maxHeartbeats 2000000 in
theorem clauses_e (hx : TXP ext) (f : Fm) (hs : Short f) (hr : rightP f = true) (l : List Ps) (hl : l.length ≤ 10000) (hon : ∀ s, s ∈ l → s.on ≤ 9223372036854775807) (hb : ∀ l' out, l' <+: l → clsP f.l [] l' = (out, true) → ∀ c, c ∈ f.l ++ out → c.length ≤ 100000) :
    G ext 67 [f.av, .d (.sl (l.map rowS))] [] = some (.ret (.tuple [.d (.sl ((clsP f.l [] l).1.map rowC)), .d (.bool (clsP f.l [] l).2)]), []) := by
  have hrt := right_e hx.toTX f hs
  rw [hr] at hrt
  have hcl := G_ext (hx.clone2 f.l (by have := hs.l; omega))
  have hll : (l.map rowS).length = l.length := List.length_map _
  have hfl : (f.l.map rowC).length = f.l.length := List.length_map _
  have hfs := hs.l
  simp only [Fm.av] at hrt
  have hxx := hx
  have hx := hx.toTX
  rw [G_body hx.clear rfl Try.func67 rfl Try.results67 hv_67 rfl]
  simp only [Fm.av]
  simp (config := { maxSteps := 4000000 }) (disch := first | (intros; contradiction) | omega) only [go_sem, hrt, hcl]
  generalize hL : loopA _ _ _ = L
  apply range_upd hL (by simp (config := { maxSteps := 4000000 }) (disch := first | (intros; contradiction) | omega) only [go_sem] <;> rfl) l rowS (α := List (List Int)) (fun rest k out => clsP f.l [] (l.take k) = (out, true) ∧ clsP f.l [] l = clsP f.l out rest ∧ out.length = k ∧ ∀ c, c ∈ f.l ++ out → c.length ≤ 100000) (fun k out => [(4, .grow 1 k (out.map rowC)), (6, .grow 2 k ((f.l ++ out).map rowC)), (19, .d (.int .i64 k))])
    (fun k out => [(1, .grow k 1), (2, .grow k 1)]) [] (by simp (config := { maxSteps := 4000000 }) (disch := first | (intros; contradiction) | omega) only [go_sem, List.append_nil] <;> rfl) ⟨rfl, rfl, rfl, fun c hc => by simp at hc; have := hs.c c hc; omega⟩ ?_ ?_
  · rintro s rest k out ⟨i0, i1, i2, i3⟩ hlt hrow hget hk _ next ih
    clear hL
    simp only [rowS] at hrow
    have hal : ((f.l ++ out).map rowC).length = (f.l ++ out).length := List.length_map _
    have hsl : s ∈ l := List.mem_of_getElem? hget
    have hso := hon s hsl
    have hk0 : (0 : Int) ≤ (k : Int) := by omega
    have hwk : IntKind.wrap .i64 ((k : Int) + 1) = ((k + 1 : Nat) : Int) := by rw [wrap64 (by omega) (by omega)]; omega
    obtain ⟨mn, hmn⟩ : ∃ mn, (if s.b < s.a then s.b else s.a) = mn := ⟨_, rfl⟩
    obtain ⟨mx, hmx⟩ : ∃ mx, (if s.a < s.b then s.b else s.a) = mx := ⟨_, rfl⟩
    have hmn2 : min s.a s.b = mn := by omega
    have hmx2 : max s.a s.b = mx := by omega
    have hrm1 : room (((f.l ++ out).map rowC).length + 1) 24 := by rw [hal, List.length_append]; unfold room; simp; omega
    have hrm2 : room ((out.map rowC).length + 1) 24 := by rw [List.length_map]; unfold room; simp; omega
    by_cases c1 : mn < 0
    · rw [i1]
      simp only [clsP]
      rw [hmn2, hmx2, if_pos (.inl c1)]
      simp (config := { maxSteps := 4000000 }) (disch := first | (intros; contradiction) | omega) only [go_sem, hlt, hrow, hmn, c1]
      done
    · by_cases c2 : (((f.l ++ out).map rowC).length : Int) ≤ mx
      · rw [i1]
        simp only [clsP]
        rw [hmn2, hmx2, if_pos (.inr (by omega))]
        simp (config := { maxSteps := 4000000 }) (disch := first | (intros; contradiction) | omega) only [go_sem, hlt, hrow, hmn, hmx, c1, c2]
        done
      · have ha0 : ¬ s.a < 0 := by omega
        have hb0 : ¬ s.b < 0 := by omega
        obtain ⟨a, hae⟩ : ∃ a : Nat, s.a = (a : Int) := ⟨s.a.toNat, by omega⟩
        obtain ⟨b, hbe⟩ : ∃ b : Nat, s.b = (b : Int) := ⟨s.b.toNat, by omega⟩
        have hga : ((f.l ++ out).map rowC)[a]? = some (rowC ((f.l ++ out).getD a [])) := by
          rw [List.getElem?_map, List.getD_eq_getElem?_getD, List.getElem?_eq_getElem (by omega)]; rfl
        have hgb : ((f.l ++ out).map rowC)[b]? = some (rowC ((f.l ++ out).getD b [])) := by
          rw [List.getElem?_map, List.getD_eq_getElem?_getD, List.getElem?_eq_getElem (by omega)]; rfl
        have hla := i3 ((f.l ++ out).getD a []) (by rw [List.getD_eq_getElem?_getD, List.getElem?_eq_getElem (by omega)]; exact List.getElem_mem _)
        have hlb := i3 ((f.l ++ out).getD b []) (by rw [List.getD_eq_getElem?_getD, List.getElem?_eq_getElem (by omega)]; exact List.getElem_mem _)
        have hA : s.a.toNat = a := by omega
        have hB : s.b.toNat = b := by omega
        obtain ⟨ca, hqa⟩ : ∃ ca, (f.l ++ out).getD a [] = ca := ⟨_, rfl⟩
        obtain ⟨cb, hqb⟩ : ∃ cb, (f.l ++ out).getD b [] = cb := ⟨_, rfl⟩
        rw [hqa] at hga hla
        rw [hqb] at hgb hlb
        have hrs := resolveB_e hx ca cb s.on hla hlb hso
        rw [hae] at hrow hmn hmx ha0
        rw [hbe] at hrow hmn hmx hb0
        simp only [rowC] at hga hgb
        cases hrv : resolveP ca cb s.on with
        | none =>
          rw [hrv] at hrs
          rw [i1]
          simp only [clsP]
          rw [hmn2, hmx2, if_neg (by omega), hA, hB, hqa, hqb, hrv]
          simp only [resA] at hrs
          simp (config := { maxSteps := 4000000 }) (disch := first | (intros; contradiction) | omega) only [go_sem, hlt, hrow, hmn, hmx, c1, c2, hga, hgb, hrs]
          done
        | some c =>
          rw [hrv] at hrs
          simp only [resA] at hrs
          have hnew : clsP f.l [] (l.take (k + 1)) = (out ++ [c], true) := by
            rw [List.take_add_one, hget, Option.toList_some, clsP_app i0]
            simp only [clsP]
            rw [hmn2, hmx2, if_neg (by omega), hA, hB, hqa, hqb, hrv]
          have hstep : clsP f.l [] l = clsP f.l (out ++ [c]) rest := by
            rw [i1]
            simp only [clsP]
            rw [hmn2, hmx2, if_neg (by omega), hA, hB, hqa, hqb, hrv]
          simp (config := { maxSteps := 4000000 }) (disch := first | (intros; contradiction) | omega) only [go_sem, hlt, hrow, hmn, hmx, c1, c2, hga, hgb, hrs, hrm1, hrm2, hwk, hk0]
          exact ih (out ++ [c]) _ ⟨hnew, hstep, by simp [i2], fun d hd => hb _ _ (List.take_prefix _ _) hnew d hd⟩ (by simp (config := { maxSteps := 4000000 }) (disch := first | (intros; contradiction) | omega) only [go_sem, ← List.append_assoc, List.map_append, List.map_cons, List.map_nil, rowC] <;> rfl)
  · rintro k out ⟨i0, i1, i2, i3⟩ hlt hk next
    clear hL
    rw [i1]
    simp only [clsP]
    simp (config := { maxSteps := 4000000 }) (disch := first | (intros; contradiction) | omega) only [go_sem, hlt]
end Go.Proofs.Ytchedkjlhjfadaa
namespace Go.Proofs.Ytchedkjlhjfadaa
open Go Go.Ab
variable {ext : Sem'}
theorem indexc0_e (hx : TX ext) (F : Nat) (p : List Int → Bool) (l : List (List Int)) (hl : l.length ≤ 1000000) (hp : ∀ x, x ∈ l → G ext F [.d (.sl (x.map rowI))] [] = some (.ret (.d (.bool (p x))), [])) :
    G ext 68 [.d (.sl (l.map rowC)), .fn F [] []] [] = some (.ret (.d (.int .i64 (idxN p l))), []) := by
  have hll : (l.map rowC).length = l.length := List.length_map _
  rw [G_body hx.clear rfl Try.func68 rfl Try.results68 hv_68 rfl]
  simp (config := { maxSteps := 4000000 }) (disch := first | (intros; contradiction) | omega) only [go_sem]
  generalize hL : loopA _ _ _ = L
  apply range_upd hL (by simp (config := { maxSteps := 4000000 }) (disch := first | (intros; contradiction) | omega) only [go_sem] <;> rfl) l rowC (α := Unit) (fun rest k _ => idxP p l = (idxP p rest).map (k + ·)) (fun k _ => [(5, .any), (8, .d (.int .i64 k))]) (fun _ _ => []) () (by simp (config := { maxSteps := 4000000 }) (disch := first | (intros; contradiction) | omega) only [go_sem] <;> rfl) (by simp) ?_ ?_
  · intro x rest k _ hi hlt hr hxx hk _ next ih
    clear hL
    have hc := hp x (List.mem_of_getElem? hxx)
    simp only [rowC] at hr
    simp only [idxP] at hi
    cases hpx : p x with
    | true =>
      rw [hpx] at hc hi
      have h1 : idxN p l = k := by unfold idxN; rw [hi]; simp
      rw [h1]
      simp (config := { maxSteps := 4000000 }) (disch := first | (intros; contradiction) | omega) only [go_sem, hlt, hr, hc]
    | false =>
      rw [hpx] at hc hi
      simp (config := { maxSteps := 4000000 }) (disch := first | (intros; contradiction) | omega) only [go_sem, hlt, hr, hc, wrap64]
      exact ih () _ (by rw [hi]; simp only [Bool.false_eq_true, if_false, Option.map_map]; congr 1; funext n; simp only [Function.comp]; omega) (by simp (config := { maxSteps := 4000000 }) (disch := first | (intros; contradiction) | omega) only [go_sem] <;> rfl)
  · intro k _ hi hlt hk next
    clear hL
    have h1 : idxN p l = -1 := by unfold idxN; rw [hi]; rfl
    rw [h1]
    simp (config := { maxSteps := 4000000 }) (disch := first | (intros; contradiction) | omega) only [go_sem, hlt]
theorem clauses0_e (hx : TXP ext) (f : Fm) (hs : Short f) (hr : rightP f = false) (l : List Ps) : G ext 67 [f.av, .d (.sl (l.map rowS))] [] = some (.ret (.tuple [.d (.sl []), .d (.bool false)]), []) := by
  have hrt := right_e hx.toTX f hs
  rw [hr] at hrt
  simp only [Fm.av] at hrt
  have hx := hx.toTX
  rw [G_body hx.clear rfl Try.func67 rfl Try.results67 hv_67 rfl]
  simp only [Fm.av]
  simp (config := { maxSteps := 4000000 }) (disch := first | (intros; contradiction) | omega) only [go_sem, hrt]
theorem empty1_e (hx : TX ext) (c : List Int) : G ext 70 [.d (.sl (c.map rowI))] [] = some (.ret (.d (.bool c.isEmpty)), []) := by
  have hcl : (c.map rowI).length = c.length := List.length_map _
  rw [G_body hx.clear rfl Try.func70 rfl Try.results70 hv_70 rfl]
  cases c with
  | nil => simp (config := { maxSteps := 4000000 }) (disch := first | (intros; contradiction) | omega) only [go_sem, List.isEmpty_nil, List.map_nil, List.length_nil]
  | cons x c =>
    have h : ¬ (((c.map rowI).length + 1 : Nat) : Int) = 0 := by omega
    simp (config := { maxSteps := 4000000 }) (disch := first | (intros; contradiction) | omega) only [go_sem, List.isEmpty_cons, List.map_cons, List.length_cons, h]
/-- The first empty clause. -/
def emptyP (f : Fm) (l : List Ps) : Int := if rightP f = true ∧ (clsP f.l [] l).2 = true then idxN List.isEmpty (f.l ++ (clsP f.l [] l).1) else -1
theorem clsP_len {fl : List (List Int)} : ∀ {l : List Ps} {o : List (List Int)}, (clsP fl o l).1.length ≤ o.length + l.length
  | [], o => by simp [clsP]
  | s :: l, o => by
    simp only [clsP]
    split
    · simp
    · split
      · have := clsP_len (fl := fl) (l := l) (o := o ++ [‹_›]); simp at this ⊢; omega
      · simp
/-- Steps whose clauses are not too long. -/
def Fits (f : Fm) (l : List Ps) : Prop := l.length ≤ 5000 ∧ (∀ s, s ∈ l → s.on ≤ 9223372036854775807) ∧ ∀ l' out, l' <+: l → clsP f.l [] l' = (out, true) → ∀ c, c ∈ f.l ++ out → c.length ≤ 100000
theorem empty_e (hx : TXP ext) (f : Fm) (hs : Short f) (l : List Ps) (hf : rightP f = true → Fits f l) : G ext 47 [f.av, .d (.sl (l.map rowS))] [] = some (.ret (.d (.int .i64 (emptyP f l))), []) := by
  have hfs := hs.l
  unfold emptyP
  cases hr : rightP f with
  | false =>
    have hc := clauses0_e hx f hs hr l
    rw [if_neg (by simp)]
    simp only [Fm.av] at hc ⊢
    have hx := hx.toTX
    rw [G_body hx.clear rfl Try.func47 rfl Try.results47 hv_47 rfl]
    simp (config := { maxSteps := 4000000 }) (disch := first | (intros; contradiction) | omega) only [go_sem, hc]
  | true =>
    obtain ⟨f1, f2, f3⟩ := hf hr
    have hc := clauses_e hx f hs hr l (by omega) f2 f3
    have hlen := clsP_len (fl := f.l) (l := l) (o := [])
    generalize clsP f.l [] l = r at hc hlen ⊢
    obtain ⟨out, b⟩ := r
    simp only [List.length_nil, Nat.zero_add] at hc hlen ⊢
    cases b with
    | false =>
      rw [if_neg (by simp)]
      simp only [Fm.av] at hc ⊢
      have hx := hx.toTX
      rw [G_body hx.clear rfl Try.func47 rfl Try.results47 hv_47 rfl]
      simp (config := { maxSteps := 4000000 }) (disch := first | (intros; contradiction) | omega) only [go_sem, hc]
    | true =>
      rw [if_pos (by simp)]
      have hcc := G_ext (hx.conc2 f.l out (by omega) (by omega))
      have hix := indexc0_e hx.toTX 70 List.isEmpty (f.l ++ out) (by rw [List.length_append]; omega) (fun c _ => empty1_e hx.toTX c)
      simp only [Fm.av, rowL, List.map_cons, List.map_nil] at hc hcc ⊢
      have hx := hx.toTX
      rw [G_body hx.clear rfl Try.func47 rfl Try.results47 hv_47 rfl]
      simp (config := { maxSteps := 4000000 }) (disch := first | (intros; contradiction) | omega) only [go_sem, hc, hcc, hix]
      done
theorem idxN_lo {α : Type} {p : α → Bool} {l : List α} : -1 ≤ idxN p l := by
  unfold idxN
  split <;> omega
theorem check_e (hx : TXP ext) (f : Fm) (hs : Short f) (l : List Ps) (hf : rightP f = true → Fits f l) : G ext 18 [f.av, .d (.sl (l.map rowS))] [] = some (.ret (.d (.bool (decide (emptyP f l ≠ -1)))), []) := by
  have he := empty_e hx f hs l hf
  generalize emptyP f l = e at he
  simp only [Fm.av] at he ⊢
  have hx := hx.toTX
  rw [G_body hx.clear rfl Try.func18 rfl Try.results18 hv_18 rfl]
  simp (config := { maxSteps := 4000000 }) (disch := first | (intros; contradiction) | omega) only [go_sem, he]
end Go.Proofs.Ytchedkjlhjfadaa
namespace Go.Proofs.Ytchedkjlhjfadaa
open Go Go.Ab
variable {ext : Sem'}
theorem own16_e (hx : TX ext) (l : List Ps) (hl : l.length ≤ 10000) : G ext 19 [.d (.sl (l.map rowS))] [] = some (.ret (.d (.sl (l.map rowS))), []) := by
  have hll : (l.map rowS).length = l.length := List.length_map _
  rw [G_body hx.clear rfl Try.func19 rfl Try.results19 hv_19 rfl]
  simp (config := { maxSteps := 4000000 }) (disch := first | (intros; contradiction) | omega) only [go_sem]
  generalize hL : loopA _ _ _ = L
  apply range_upd hL (by simp (config := { maxSteps := 4000000 }) (disch := first | (intros; contradiction) | omega) only [go_sem] <;> rfl) l rowS (α := List Ps) (fun rest k d => d ++ rest = l ∧ d.length = k) (fun k d => [(3, .grow 1 k (d.map rowS)), (4, .d (.int .i64 k))]) (fun k d => [(1, .grow k 3)]) [] (by simp (config := { maxSteps := 4000000 }) (disch := first | (intros; contradiction) | omega) only [go_sem] <;> rfl) ⟨rfl, rfl⟩ ?_ ?_
  · rintro s rest k d ⟨i1, i2⟩ hlt hrow hget hk _ next ih
    clear hL
    simp only [rowS] at hrow
    have hroom : room ((d.map rowS).length + 1) 24 := by rw [List.length_map]; unfold room; simp; omega
    simp (config := { maxSteps := 4000000 }) (disch := first | (intros; contradiction) | omega) only [go_sem, hlt, hrow, hroom, wrap64]
    exact ih (d ++ [s]) _ ⟨by rw [← i1]; simp, by simp [i2]⟩ (by simp (config := { maxSteps := 4000000 }) (disch := first | (intros; contradiction) | omega) only [go_sem, List.map_append, List.map_cons, List.map_nil, rowS] <;> rfl)
  · rintro k d ⟨i1, i2⟩ hlt hk next
    clear hL
    rw [List.append_nil] at i1
    subst i1
    simp (config := { maxSteps := 4000000 }) (disch := first | (intros; contradiction) | omega) only [go_sem, hlt]
theorem back16_e (hx : TX ext) (l : List Ps) (hl : l.length ≤ 10000) : G ext 17 [.d (.sl (l.map rowS))] [] = some (.ret (.d (.sl (l.map rowS))), []) := by
  have hll : (l.map rowS).length = l.length := List.length_map _
  rw [G_body hx.clear rfl Try.func17 rfl Try.results17 hv_17 rfl]
  simp (config := { maxSteps := 4000000 }) (disch := first | (intros; contradiction) | omega) only [go_sem]
  generalize hL : loopA _ _ _ = L
  apply range_upd hL (by simp (config := { maxSteps := 4000000 }) (disch := first | (intros; contradiction) | omega) only [go_sem] <;> rfl) l rowS (α := List Ps) (fun rest k d => d ++ rest = l ∧ d.length = k) (fun k d => [(3, .grow 1 k (d.map rowS)), (4, .d (.int .i64 k))]) (fun k d => [(1, .grow k 3)]) [] (by simp (config := { maxSteps := 4000000 }) (disch := first | (intros; contradiction) | omega) only [go_sem] <;> rfl) ⟨rfl, rfl⟩ ?_ ?_
  · rintro s rest k d ⟨i1, i2⟩ hlt hrow hget hk _ next ih
    clear hL
    simp only [rowS] at hrow
    have hroom : room ((d.map rowS).length + 1) 24 := by rw [List.length_map]; unfold room; simp; omega
    simp (config := { maxSteps := 4000000 }) (disch := first | (intros; contradiction) | omega) only [go_sem, hlt, hrow, hroom, wrap64]
    exact ih (d ++ [s]) _ ⟨by rw [← i1]; simp, by simp [i2]⟩ (by simp (config := { maxSteps := 4000000 }) (disch := first | (intros; contradiction) | omega) only [go_sem, List.map_append, List.map_cons, List.map_nil, rowS] <;> rfl)
  · rintro k d ⟨i1, i2⟩ hlt hk next
    clear hL
    rw [List.append_nil] at i1
    subst i1
    simp (config := { maxSteps := 4000000 }) (disch := first | (intros; contradiction) | omega) only [go_sem, hlt]
def smallS (s : Ps) : Bool := decide (-1000000 ≤ s.a ∧ s.a ≤ 1000000 ∧ -1000000 ≤ s.b ∧ s.b ≤ 1000000 ∧ -1000000 ≤ s.on ∧ s.on ≤ 1000000)
def light16 (f : Fm) (l : List Ps) : Bool := decide (l.length ≤ 40) && (l.all smallS && (lightP f && decide (f.l.length ≤ 40)))
set_option maxHeartbeats 8000000 in
theorem light16_e (hx : TX ext) (f : Fm) (l : List Ps) : G ext 10 [f.av, .d (.sl (l.map rowS))] [] = some (.ret (.d (.bool (light16 f l))), []) := by
  have hll : (l.map rowS).length = l.length := List.length_map _
  have hfl : (f.l.map rowC).length = f.l.length := List.length_map _
  have hli := light_e hx f
  simp only [Fm.av] at hli
  rw [G_body hx.clear rfl Try.func10 rfl Try.results10 hv_10 rfl]
  simp only [Fm.av]
  unfold light16
  by_cases h1 : (40 : Int) < ((l.map rowS).length : Int)
  · rw [decide_eq_false (show ¬ l.length ≤ 40 by omega)]
    simp (config := { maxSteps := 4000000 }) (disch := first | (intros; contradiction) | omega) only [go_sem, h1] <;> rfl
  · rw [decide_eq_true (show l.length ≤ 40 by omega)]
    simp only [Bool.true_and]
    simp (config := { maxSteps := 4000000 }) (disch := first | (intros; contradiction) | omega) only [go_sem, h1]
    generalize hL : loopA _ _ _ = L
    apply range_upd hL (by simp (config := { maxSteps := 4000000 }) (disch := first | (intros; contradiction) | omega) only [go_sem] <;> rfl) l rowS (α := Unit) (fun rest k _ => l.all smallS = rest.all smallS) (fun k _ => [(5, .d (.int .i64 k))]) (fun _ _ => []) () (by simp (config := { maxSteps := 4000000 }) (disch := first | (intros; contradiction) | omega) only [go_sem] <;> rfl) rfl ?_ ?_
    · rintro s rest k _ i1 hlt hrow hget hk _ next ih
      clear hL
      simp only [rowS] at hrow
      rw [List.all_cons] at i1
      have hwk : IntKind.wrap .i64 ((k : Int) + 1) = ((k + 1 : Nat) : Int) := by rw [wrap64 (by omega) (by omega)]; omega
      by_cases g : smallS s = true
      · rw [g, Bool.true_and] at i1
        have g := of_decide_eq_true g
        have g1 : ¬ s.a < -1000000 := by omega
        have g2 : ¬ (1000000 : Int) < s.a := by omega
        have g3 : ¬ s.b < -1000000 := by omega
        have g4 : ¬ (1000000 : Int) < s.b := by omega
        have g5 : ¬ s.on < -1000000 := by omega
        have g6 : ¬ (1000000 : Int) < s.on := by omega
        simp (config := { maxSteps := 4000000 }) (disch := first | (intros; contradiction) | omega) only [go_sem, hlt, hrow, g1, g2, g3, g4, g5, g6, hwk]
        exact ih () _ i1 (by simp (config := { maxSteps := 4000000 }) (disch := first | (intros; contradiction) | omega) only [go_sem] <;> rfl)
      · have g' : smallS s = false := by simpa using g
        rw [g', Bool.false_and] at i1
        rw [i1]
        have g := of_decide_eq_false g'
        simp only [Bool.false_and]
        by_cases g1 : s.a < -1000000
        · simp (config := { maxSteps := 4000000 }) (disch := first | (intros; contradiction) | omega) only [go_sem, hlt, hrow, g1]
        by_cases g2 : (1000000 : Int) < s.a
        · simp (config := { maxSteps := 4000000 }) (disch := first | (intros; contradiction) | omega) only [go_sem, hlt, hrow, g1, g2]
        by_cases g3 : s.b < -1000000
        · simp (config := { maxSteps := 4000000 }) (disch := first | (intros; contradiction) | omega) only [go_sem, hlt, hrow, g1, g2, g3]
        by_cases g4 : (1000000 : Int) < s.b
        · simp (config := { maxSteps := 4000000 }) (disch := first | (intros; contradiction) | omega) only [go_sem, hlt, hrow, g1, g2, g3, g4]
        by_cases g5 : s.on < -1000000
        · simp (config := { maxSteps := 4000000 }) (disch := first | (intros; contradiction) | omega) only [go_sem, hlt, hrow, g1, g2, g3, g4, g5]
        by_cases g6 : (1000000 : Int) < s.on
        · simp (config := { maxSteps := 4000000 }) (disch := first | (intros; contradiction) | omega) only [go_sem, hlt, hrow, g1, g2, g3, g4, g5, g6]
        omega
    · rintro k _ i1 hlt hk next
      clear hL
      have i1 : l.all smallS = true := i1
      rw [i1]
      simp only [Bool.true_and]
      cases hlp : lightP f with
      | false =>
        rw [hlp] at hli
        simp (config := { maxSteps := 4000000 }) (disch := first | (intros; contradiction) | omega) only [go_sem, hlt, hli, Bool.false_and]
        done
      | true =>
        rw [hlp] at hli
        have hde : decide ((40 : Int) < ((f.l.map rowC).length : Int)) = !decide (f.l.length ≤ 40) := by
          by_cases h : f.l.length ≤ 40
          · rw [decide_eq_true h, decide_eq_false (by omega)]; rfl
          · rw [decide_eq_false h, decide_eq_true (by omega)]; rfl
        have hde2 : decide (((f.l.map rowC).length : Int) ≤ 40) = decide (f.l.length ≤ 40) := by
          congr 1
          apply propext
          omega
        simp (config := { maxSteps := 4000000 }) (disch := first | (intros; contradiction) | omega) only [go_sem, hlt, hli, hde, hde2, Bool.not_not, Bool.true_and]
        done
end Go.Proofs.Ytchedkjlhjfadaa
namespace Go.Proofs.Ytchedkjlhjfadaa
open Go Go.Ab
variable {ext : Sem'}
theorem clsP_all {fl : List (List Int)} {P : List Int → Prop} (hf : ∀ c, c ∈ fl → P c) (hr : ∀ a b v c, P a → P b → resolveP a b v = some c → P c) : ∀ {l : List Ps} {o : List (List Int)}, (∀ c, c ∈ o → P c) → ∀ c, c ∈ (clsP fl o l).1 → P c
  | [], o, ho => ho
  | s :: l, o, ho => by
    simp only [clsP]
    split
    · exact ho
    · rename_i h
      split
      · rename_i c hc
        have hall : ∀ c, c ∈ fl ++ o → P c := fun c hc => by
          rcases List.mem_append.1 hc with h | h
          · exact hf c h
          · exact ho c h
        have hg : ∀ i : Nat, i < (fl ++ o).length → P ((fl ++ o).getD i []) := fun i hi => by
          rw [List.getD_eq_getElem?_getD, List.getElem?_eq_getElem hi]
          exact hall _ (List.getElem_mem _)
        refine clsP_all hf hr fun d hd => ?_
        rcases List.mem_append.1 hd with h2 | h2
        · exact ho d h2
        · rw [List.mem_singleton] at h2
          subst h2
          exact hr _ _ _ _ (hg _ (by omega)) (hg _ (by omega)) hc
      · exact ho
theorem nodup_sub : ∀ {l u : List Int}, l.Nodup → (∀ x, x ∈ l → x ∈ u) → l.length ≤ u.length
  | [], _, _, _ => Nat.zero_le _
  | x :: l, u, h, hs => by
    have h := List.nodup_cons.1 h
    have hx := hs x (by simp)
    have := nodup_sub (u := u.erase x) h.2 (fun y hy => (List.mem_erase_of_ne (fun e => by rw [e] at hy; exact h.1 hy)).2 (hs y (by simp [hy])))
    rw [List.length_erase_of_mem hx] at this
    have := List.length_pos_of_mem hx
    simp only [List.length_cons]
    omega
theorem norm_nodup (c : List Int) : (normL c).Nodup := by
  have h := dd_strict (sort_sorted c)
  refine List.Pairwise.imp (fun {a b} hab e => ?_) h
  subst e
  rw [ltI_irrefl] at hab
  cases hab
theorem resolve_mem {a b c : List Int} {v : Int} (h : resolveP a b v = some c) : c.Nodup ∧ ∀ x, x ∈ c → x ∈ a ∨ x ∈ b := by
  unfold resolveP at h
  split at h
  · cases h
  · split at h
    · cases h
      refine ⟨norm_nodup _, fun x hx => ?_⟩
      rw [mem_norm] at hx
      simp only [withoutP, List.mem_append, List.mem_filter] at hx
      exact hx.imp (·.1) (·.1)
    · cases h
theorem flat_len {l : List (List Int)} (h : ∀ c, c ∈ l → c.length ≤ 60) : l.flatten.length ≤ l.length * 60 := by
  induction l with
  | nil => simp
  | cons c l ih =>
    have h1 := h c (by simp)
    have h2 := ih (fun d hd => h d (by simp [hd]))
    simp only [List.flatten_cons, List.length_append, List.length_cons]
    omega
/-- The steps' clauses are short. -/
theorem cls_short {f : Fm} (hl : lightP f = true) (l : List Ps) : ∀ c, c ∈ f.l ++ (clsP f.l [] l).1 → c.length ≤ 4800 := by
  unfold lightP at hl
  simp only [Bool.and_eq_true, decide_eq_true_eq, List.all_eq_true] at hl
  have h60 := fun c hc => (clause_inv (hl.2 c hc)).1
  have hfl := flat_len h60
  have hP : ∀ c, c ∈ (clsP f.l [] l).1 → (∀ x, x ∈ c → x ∈ f.l.flatten) ∧ (c ∈ f.l ∨ c.Nodup) := by
    refine clsP_all (fun c hc => ⟨fun x hx => List.mem_flatten.2 ⟨c, hc, hx⟩, .inl hc⟩) (fun a b v c ha hb hr => ?_) (by simp)
    obtain ⟨h1, h2⟩ := resolve_mem hr
    exact ⟨fun x hx => (h2 x hx).elim (ha.1 x) (hb.1 x), .inr h1⟩
  intro c hc
  rcases List.mem_append.1 hc with h | h
  · have := h60 c h; omega
  · rcases hP c h with ⟨h1, h2 | h2⟩
    · have := h60 c h2; omega
    · have := nodup_sub h2 h1; omega
theorem light16_inv {f : Fm} {l : List Ps} (h : light16 f l = true) : l.length ≤ 40 ∧ (∀ s, s ∈ l → smallS s = true) ∧ lightP f = true ∧ f.l.length ≤ 40 := by
  unfold light16 at h
  simp only [Bool.and_eq_true, decide_eq_true_eq, List.all_eq_true] at h
  exact h
theorem fits_light {f : Fm} {l : List Ps} (h : light16 f l = true) : Fits f l := by
  obtain ⟨h1, h2, h3, h4⟩ := light16_inv h
  refine ⟨by omega, fun s hs => ?_, fun l' out _ ho c hc => ?_⟩
  · have := of_decide_eq_true (h2 s hs); omega
  · have := cls_short h3 l' c (by rw [ho]; exact hc)
    omega
theorem sound_P {f : Fm} {l : List Ps} {m : List Bool} (h : emptyP f l ≠ -1) (he : evalP f m = true) : False := by
  unfold evalP at he
  simp only [Bool.and_eq_true, decide_eq_true_eq, List.all_eq_true] at he
  obtain ⟨hr, hm, ha⟩ := he
  obtain ⟨h0, h1, h2⟩ := right_inv hr
  unfold emptyP at h
  split at h
  · rename_i hc
    have hP : ∀ c, c ∈ (clsP f.l [] l).1 → allP f.n c = true ∧ c.any (trueP m) = true := by
      have hbase : ∀ c, c ∈ f.l → allP f.n c = true ∧ c.any (trueP m) = true := fun c hc => ⟨List.all_eq_true.2 (h2 c hc), ha c hc⟩
      refine clsP_all hbase (fun a b v c ka kb hr => ?_) (by simp)
      have hall : allP f.n c = true := List.all_eq_true.2 fun x hx => by
        rcases (resolve_mem hr).2 x hx with h | h
        · exact List.all_eq_true.1 ka.1 x h
        · exact List.all_eq_true.1 kb.1 x h
      have := resolve_sound h0 h1 hm ka.1 kb.1 hr ka.2 kb.2
      rw [evalP_one h0 h1 hm hall] at this
      exact ⟨hall, this⟩
    have hany := idxN_any (p := List.isEmpty) (l := f.l ++ (clsP f.l [] l).1)
    have hlo := idxN_lo (p := List.isEmpty) (l := f.l ++ (clsP f.l [] l).1)
    rw [decide_eq_true (by omega)] at hany
    obtain ⟨c, hc, hce⟩ := List.any_eq_true.1 hany.symm
    have hce : c = [] := by simpa using hce
    subst hce
    rcases List.mem_append.1 hc with h | h
    · have := ha _ h; simp at this
    · have := (hP _ h).2; simp at this
  · exact h rfl
set_option maxHeartbeats 4000000 in
theorem soundL16_e (hx : TXP ext) (f : Fm) (l : List Ps) (m : List Bool) : G ext 4 [f.av, .d (.sl (l.map rowS)), .d (.sl (m.map rowB))] [] = some (.ret (.d (.bool true)), []) := by
  have ha := alive16_e hx
  have hli := light16_e hx.toTX f l
  have hml : (m.map rowB).length = m.length := List.length_map _
  have hxt := hx.toTX
  cases h1 : light16 f l with
  | false =>
    rw [h1] at hli
    simp only [Fm.av] at hli ⊢
    have hx := hxt
    rw [G_body hx.clear rfl Try.func4 rfl Try.results4 hv_4 rfl]
    simp (config := { maxSteps := 4000000 }) (disch := first | (intros; contradiction) | omega) only [go_sem, hli, ha]
  | true =>
    rw [h1] at hli
    by_cases h2 : (100 : Int) < ((m.map rowB).length : Int)
    · simp only [Fm.av] at hli ⊢
      have hx := hxt
      rw [G_body hx.clear rfl Try.func4 rfl Try.results4 hv_4 rfl]
      simp (config := { maxSteps := 4000000 }) (disch := first | (intros; contradiction) | omega) only [go_sem, hli, ha, h2]
    · by_cases h3 : ((m.map rowB).length : Int) = f.n
      · obtain ⟨g1, g2, g3, g4⟩ := light16_inv h1
        have hs := (light_short g3).1
        have ho := own_e hxt f
        have how := own16_e hxt l (by omega)
        have hch := check_e hx f hs l (fun _ => fits_light h1)
        have hev := eval_e hxt f hs m
        have hno : decide (emptyP f l ≠ -1) = true → evalP f m = true → False := fun a b => sound_P (of_decide_eq_true a) b
        generalize decide (emptyP f l ≠ -1) = b1 at hch hno
        generalize evalP f m = b2 at hev hno
        simp only [Fm.av] at hli ho hch hev ⊢
        have hx := hxt
        rw [G_body hx.clear rfl Try.func4 rfl Try.results4 hv_4 rfl]
        have h2' : ¬ (100 : Int) < f.n := by omega
        cases b1 with
        | false => simp (config := { maxSteps := 4000000 }) (disch := first | (intros; contradiction) | omega) only [go_sem, hli, ha, h2, h2', h3, ho, how, hch]
        | true =>
          cases b2 with
          | false => simp (config := { maxSteps := 4000000 }) (disch := first | (intros; contradiction) | omega) only [go_sem, hli, ha, h2, h2', h3, ho, how, hch, hev]
          | true => exact absurd rfl (hno rfl)
      · simp only [Fm.av] at hli ⊢
        have hx := hxt
        rw [G_body hx.clear rfl Try.func4 rfl Try.results4 hv_4 rfl]
        simp (config := { maxSteps := 4000000 }) (disch := first | (intros; contradiction) | omega) only [go_sem, hli, ha, h2, h3]
end Go.Proofs.Ytchedkjlhjfadaa
