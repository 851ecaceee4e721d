/- Law 16: what steps are of clauses. Conditions: none. -/
import Derived.Test.YtchedkjlhjfadaaQ1
set_option linter.unusedSimpArgs false
set_option linter.unusedVariables false
namespace Go.Proofs.Ytchedkjlhjfadaa
open Go Go.Ab
variable {ext : Sem'}
/-- A step. -/
structure Ps where
  a : Int
  b : Int
  on : Int
  deriving DecidableEq
def rowS (s : Ps) : List Dt := [.int .i64 s.a, .int .i64 s.b, .int .i64 s.on]
set_option maxHeartbeats 1000000 in
theorem resolveB_e (hx : TX ext) (a b : List Int) (v : Int) (ha : a.length ≤ 100000) (hb : b.length ≤ 100000) (hv : v ≤ 9223372036854775807) : G ext 93 [.d (.sl (a.map rowI)), .d (.sl (b.map rowI)), .d (.int .i64 v)] [] = some (.ret (resA (resolveP a b v)), []) := by
  have h1 := containsv_e hx a v (by omega)
  have h2 := containsv_e hx b (0 - v) (by omega)
  have hla : (withoutP v a).length ≤ a.length := List.length_filter_le _ _
  have hlb : (withoutP (0 - v) b).length ≤ b.length := List.length_filter_le _ _
  have hn := norm_e hx (withoutP v a ++ withoutP (0 - v) b) (by rw [List.length_append]; omega)
  have hroom : room (((withoutP v a).map rowI).length + ((withoutP (0 - v) b).map rowI).length) 8 := by
    have := room_n8 (n := (withoutP v a).length + (withoutP (0 - v) b).length) (by omega)
    simpa only [List.length_map] using this
  have hfit : fits 1 ((withoutP (0 - v) b).map rowI) := by intro row h; obtain ⟨x, _, rfl⟩ := List.mem_map.1 h; rfl
  rw [G_body hx.clear rfl Try.func93 rfl Try.results93 hv_93 rfl]
  unfold resolveP
  rw [List.map_append] at hn
  by_cases g1 : v < 1
  · rw [if_pos (.inl g1)]
    simp only [resA]
    simp (config := { maxSteps := 4000000 }) (disch := first | (intros; contradiction) | omega) only [go_sem, g1]
  · cases g2 : hasP a v with
    | false =>
      rw [g2] at h1
      rw [if_pos (.inr (.inl rfl))]
      simp only [resA]
      simp (config := { maxSteps := 4000000 }) (disch := first | (intros; contradiction) | omega) only [go_sem, g1, h1]
    | true =>
      rw [g2] at h1
      cases g3 : hasP b (0 - v) with
      | false =>
        rw [g3] at h2
        rw [if_pos (.inr (.inr rfl))]
        simp only [resA]
        simp (config := { maxSteps := 4000000 }) (disch := first | (intros; contradiction) | omega) only [go_sem, g1, h1, h2, wrap64]
      | true =>
        rw [g3] at h2
        rw [if_neg (by simp; omega)]
        have w1 := G_ext (hx.without a v (by rintro rfl; cases g2) (by omega))
        have w2 := G_ext (hx.without b (0 - v) (by rintro rfl; cases g3) (by omega))
        rw [show (a.filter fun y => decide (y ≠ v)) = withoutP v a from rfl] at w1
        rw [show (b.filter fun y => decide (y ≠ 0 - v)) = withoutP (0 - v) b from rfl] at w2
        cases g4 : cleanL (normL (withoutP v a ++ withoutP (0 - v) b)) with
        | true =>
          rw [g4] at hn
          simp only [if_true, resA]
          simp (config := { maxSteps := 4000000 }) (disch := first | (intros; contradiction) | omega) only [go_sem, g1, h1, h2, wrap64, w1, w2, hroom, hfit, hn]
        | false =>
          rw [g4] at hn
          simp only [Bool.false_eq_true, if_false, resA]
          simp (config := { maxSteps := 4000000 }) (disch := first | (intros; contradiction) | omega) only [go_sem, g1, h1, h2, wrap64, w1, w2, hroom, hfit, hn]
/-- The clauses of steps. -/
def clsP (fl : List (List Int)) : List (List Int) → List Ps → List (List Int) × Bool
  | out, [] => (out, true)
  | out, s :: l =>
    if min s.a s.b < 0 ∨ ((fl ++ out).length : Int) ≤ max s.a s.b then (out, false) else
    match resolveP ((fl ++ out).getD s.a.toNat []) ((fl ++ out).getD s.b.toNat []) s.on with
    | some c => clsP fl (out ++ [c]) l
    | none => (out, false)
theorem clsP_app {fl : List (List Int)} {out : List (List Int)} {l2 : List Ps} : ∀ {l1 : List Ps} {o : List (List Int)}, clsP fl o l1 = (out, true) → clsP fl o (l1 ++ l2) = clsP fl out l2
  | [], o, h => by
    simp only [clsP, Prod.mk.injEq, and_true] at h
    rw [h]; rfl
  | s :: l1, o, h => by
    simp only [List.cons_append, clsP] at h ⊢
    split at h
    · simp at h
    · rename_i hc
      rw [if_neg hc]
      split at h
      · rename_i c hr
        exact clsP_app h
      · simp at h
set_option maxHeartbeats 2000000 in
theorem clauses_e (hx : TXP ext) (f : Fm) (hs : Short f) (hr : rightP f = true) (l : List Ps) (hl : l.length ≤ 10000) (hon : ∀ s, s ∈ l → s.on ≤ 9223372036854775807) (hb : ∀ l' out, l' <+: l → clsP f.l [] l' = (out, true) → ∀ c, c ∈ f.l ++ out → c.length ≤ 100000) :
    G ext 67 [f.av, .d (.sl (l.map rowS))] [] = some (.ret (.tuple [.d (.sl ((clsP f.l [] l).1.map rowC)), .d (.bool (clsP f.l [] l).2)]), []) := by
  have hrt := right_e hx.toTX f hs
  rw [hr] at hrt
  have hcl := G_ext (hx.clone2 f.l (by have := hs.l; omega))
  have hll : (l.map rowS).length = l.length := List.length_map _
  have hfl : (f.l.map rowC).length = f.l.length := List.length_map _
  have hfs := hs.l
  simp only [Fm.av] at hrt
  have hxx := hx
  have hx := hx.toTX
  rw [G_body hx.clear rfl Try.func67 rfl Try.results67 hv_67 rfl]
  simp only [Fm.av]
  simp (config := { maxSteps := 4000000 }) (disch := first | (intros; contradiction) | omega) only [go_sem, hrt, hcl]
  generalize hL : loopA _ _ _ = L
  apply range_upd hL (by simp (config := { maxSteps := 4000000 }) (disch := first | (intros; contradiction) | omega) only [go_sem] <;> rfl) l rowS (α := List (List Int)) (fun rest k out => clsP f.l [] (l.take k) = (out, true) ∧ clsP f.l [] l = clsP f.l out rest ∧ out.length = k ∧ ∀ c, c ∈ f.l ++ out → c.length ≤ 100000) (fun k out => [(4, .grow 1 k (out.map rowC)), (6, .grow 2 k ((f.l ++ out).map rowC)), (19, .d (.int .i64 k))])
    (fun k out => [(1, .grow k 1), (2, .grow k 1)]) [] (by simp (config := { maxSteps := 4000000 }) (disch := first | (intros; contradiction) | omega) only [go_sem, List.append_nil] <;> rfl) ⟨rfl, rfl, rfl, fun c hc => by simp at hc; have := hs.c c hc; omega⟩ ?_ ?_
  · rintro s rest k out ⟨i0, i1, i2, i3⟩ hlt hrow hget hk _ next ih
    clear hL
    simp only [rowS] at hrow
    have hal : ((f.l ++ out).map rowC).length = (f.l ++ out).length := List.length_map _
    have hsl : s ∈ l := List.mem_of_getElem? hget
    have hso := hon s hsl
    have hk0 : (0 : Int) ≤ (k : Int) := by omega
    have hwk : IntKind.wrap .i64 ((k : Int) + 1) = ((k + 1 : Nat) : Int) := by rw [wrap64 (by omega) (by omega)]; omega
    obtain ⟨mn, hmn⟩ : ∃ mn, (if s.b < s.a then s.b else s.a) = mn := ⟨_, rfl⟩
    obtain ⟨mx, hmx⟩ : ∃ mx, (if s.a < s.b then s.b else s.a) = mx := ⟨_, rfl⟩
    have hmn2 : min s.a s.b = mn := by omega
    have hmx2 : max s.a s.b = mx := by omega
    have hrm1 : room (((f.l ++ out).map rowC).length + 1) 24 := by rw [hal, List.length_append]; unfold room; simp; omega
    have hrm2 : room ((out.map rowC).length + 1) 24 := by rw [List.length_map]; unfold room; simp; omega
    by_cases c1 : mn < 0
    · rw [i1]
      simp only [clsP]
      rw [hmn2, hmx2, if_pos (.inl c1)]
      simp (config := { maxSteps := 4000000 }) (disch := first | (intros; contradiction) | omega) only [go_sem, hlt, hrow, hmn, c1]
      done
    · by_cases c2 : (((f.l ++ out).map rowC).length : Int) ≤ mx
      · rw [i1]
        simp only [clsP]
        rw [hmn2, hmx2, if_pos (.inr (by omega))]
        simp (config := { maxSteps := 4000000 }) (disch := first | (intros; contradiction) | omega) only [go_sem, hlt, hrow, hmn, hmx, c1, c2]
        done
      · have ha0 : ¬ s.a < 0 := by omega
        have hb0 : ¬ s.b < 0 := by omega
        obtain ⟨a, hae⟩ : ∃ a : Nat, s.a = (a : Int) := ⟨s.a.toNat, by omega⟩
        obtain ⟨b, hbe⟩ : ∃ b : Nat, s.b = (b : Int) := ⟨s.b.toNat, by omega⟩
        have hga : ((f.l ++ out).map rowC)[a]? = some (rowC ((f.l ++ out).getD a [])) := by
          rw [List.getElem?_map, List.getD_eq_getElem?_getD, List.getElem?_eq_getElem (by omega)]; rfl
        have hgb : ((f.l ++ out).map rowC)[b]? = some (rowC ((f.l ++ out).getD b [])) := by
          rw [List.getElem?_map, List.getD_eq_getElem?_getD, List.getElem?_eq_getElem (by omega)]; rfl
        have hla := i3 ((f.l ++ out).getD a []) (by rw [List.getD_eq_getElem?_getD, List.getElem?_eq_getElem (by omega)]; exact List.getElem_mem _)
        have hlb := i3 ((f.l ++ out).getD b []) (by rw [List.getD_eq_getElem?_getD, List.getElem?_eq_getElem (by omega)]; exact List.getElem_mem _)
        have hA : s.a.toNat = a := by omega
        have hB : s.b.toNat = b := by omega
        obtain ⟨ca, hqa⟩ : ∃ ca, (f.l ++ out).getD a [] = ca := ⟨_, rfl⟩
        obtain ⟨cb, hqb⟩ : ∃ cb, (f.l ++ out).getD b [] = cb := ⟨_, rfl⟩
        rw [hqa] at hga hla
        rw [hqb] at hgb hlb
        have hrs := resolveB_e hx ca cb s.on hla hlb hso
        rw [hae] at hrow hmn hmx ha0
        rw [hbe] at hrow hmn hmx hb0
        simp only [rowC] at hga hgb
        cases hrv : resolveP ca cb s.on with
        | none =>
          rw [hrv] at hrs
          rw [i1]
          simp only [clsP]
          rw [hmn2, hmx2, if_neg (by omega), hA, hB, hqa, hqb, hrv]
          simp only [resA] at hrs
          simp (config := { maxSteps := 4000000 }) (disch := first | (intros; contradiction) | omega) only [go_sem, hlt, hrow, hmn, hmx, c1, c2, hga, hgb, hrs]
          done
        | some c =>
          rw [hrv] at hrs
          simp only [resA] at hrs
          have hnew : clsP f.l [] (l.take (k + 1)) = (out ++ [c], true) := by
            rw [List.take_add_one, hget, Option.toList_some, clsP_app i0]
            simp only [clsP]
            rw [hmn2, hmx2, if_neg (by omega), hA, hB, hqa, hqb, hrv]
          have hstep : clsP f.l [] l = clsP f.l (out ++ [c]) rest := by
            rw [i1]
            simp only [clsP]
            rw [hmn2, hmx2, if_neg (by omega), hA, hB, hqa, hqb, hrv]
          simp (config := { maxSteps := 4000000 }) (disch := first | (intros; contradiction) | omega) only [go_sem, hlt, hrow, hmn, hmx, c1, c2, hga, hgb, hrs, hrm1, hrm2, hwk, hk0]
          exact ih (out ++ [c]) _ ⟨hnew, hstep, by simp [i2], fun d hd => hb _ _ (List.take_prefix _ _) hnew d hd⟩ (by simp (config := { maxSteps := 4000000 }) (disch := first | (intros; contradiction) | omega) only [go_sem, ← List.append_assoc, List.map_append, List.map_cons, List.map_nil, rowC] <;> rfl)
  · rintro k out ⟨i0, i1, i2, i3⟩ hlt hk next
    clear hL
    rw [i1]
    simp only [clsP]
    simp (config := { maxSteps := 4000000 }) (disch := first | (intros; contradiction) | omega) only [go_sem, hlt]
end Go.Proofs.Ytchedkjlhjfadaa
