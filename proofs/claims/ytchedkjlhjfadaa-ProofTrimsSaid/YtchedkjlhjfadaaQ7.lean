/- Law 16: steps, trimmed. Conditions: none. -/
import Derived.Test.YtchedkjlhjfadaaQ6
set_option linter.unusedSimpArgs false
set_option linter.unusedVariables false
namespace Go.Proofs.Ytchedkjlhjfadaa
open Go Go.Ab
variable {ext : Sem'}
/-- Numbers by numbers, as a map. -/
def kV (s : List (Int × Int)) : List (AV × AV) := s.map fun p => (.d (.int .i64 p.1), .d (.int .i64 p.2))
theorem refsM_kV : ∀ s, refsM (kV s) = []
  | [] => rfl
  | x :: s => by have := refsM_kV s; simp only [kV, List.map_cons, refsM] at this ⊢; rw [this]; rfl
theorem renM_kV (g : Nat → Nat) : ∀ s, renM g (kV s) = kV s
  | [] => rfl
  | x :: s => by have := renM_kV g s; simp only [kV, List.map_cons, renM, ren] at this ⊢; rw [this]
def lkp : List (Int × Int) → Int → Option Int
  | [], _ => none
  | p :: s, x => if x = p.1 then some p.2 else lkp s x
def setK : List (Int × Int) → Int → Int → List (Int × Int)
  | [], x, y => [(x, y)]
  | p :: s, x, y => if x = p.1 then (p.1, y) :: s else p :: setK s x y
theorem findM_kV (x : Int) : ∀ s, findM (.int .i64) (.d (.int .i64 x)) (kV s) = some ((lkp s x).map fun y => .d (.int .i64 y))
  | [] => by simp [kV, findM, keyEq, lkp]
  | p :: s => by
    have ih := findM_kV x s
    simp only [kV, List.map_cons, findM, keyEq] at ih ⊢
    by_cases h : x = p.1
    · simp [h, lkp]
    · simp only [and_self, if_true, h, decide_false]
      rw [ih]
      simp [h, lkp]
theorem setM_kV (x y : Int) : ∀ s, setM (.int .i64) (.d (.int .i64 x)) (.d (.int .i64 y)) (kV s) = some (kV (setK s x y))
  | [] => by simp [kV, setM, keyEq, setK]
  | p :: s => by
    have ih := setM_kV x y s
    simp only [kV, List.map_cons, setM, keyEq] at ih ⊢
    by_cases h : x = p.1
    · simp [h, setK]
    · simp only [and_self, if_true, h, decide_false]
      rw [ih]
      simp [setK, h]
def placeP (n : Int) (to : List (Int × Int)) (c : Int) : Int := if c < n then c else (lkp to c).getD 0
theorem place_e (hx : TX ext) (n c : Int) (to : List (Int × Int)) : G ext 50 [.d (.int .i64 c), .ptr 0 0, .ptr 1 0] [.cells [.d (.int .i64 n)], .cells [.mp 2], .mapo (kV to)] = some (.ret (.d (.int .i64 (placeP n to c))), [.cells [.d (.int .i64 n)], .cells [.mp 2], .mapo (kV to)]) := by
  have r1 := refsM_kV
  have r2 := renM_kV
  have hfi := findM_kV c to
  unfold placeP
  by_cases h : c < n
  · rw [if_pos h]
    rw [G_body hx.clear rfl Try.func50 rfl Try.results50 hv_50 rfl]
    simp (config := { maxSteps := 4000000 }) (disch := first | (intros; contradiction) | omega) only [go_sem, h, r1, r2]
  · rw [if_neg h]
    cases hl : lkp to c with
    | none =>
      rw [hl] at hfi
      simp only [Option.map_none, Option.getD_none] at hfi ⊢
      rw [G_body hx.clear rfl Try.func50 rfl Try.results50 hv_50 rfl]
      simp (config := { maxSteps := 4000000 }) (disch := first | (intros; contradiction) | omega) only [go_sem, h, r1, r2, hfi]
    | some y =>
      rw [hl] at hfi
      simp only [Option.map_some, Option.getD_some] at hfi ⊢
      rw [G_body hx.clear rfl Try.func50 rfl Try.results50 hv_50 rfl]
      simp (config := { maxSteps := 4000000 }) (disch := first | (intros; contradiction) | omega) only [go_sem, h, r1, r2, hfi]
/-- What is left, trimmed. -/
def trimR (n : Nat) (u : Int → Bool) : List Ps → Nat → List (Int × Int) → List Ps → List Ps
  | [], _, _, out => out
  | s :: l, i, to, out =>
    if u ((n + i : Nat) : Int) = true then
      trimR n u l (i + 1) (setK to ((n + i : Nat) : Int) ((n + out.length : Nat) : Int)) (out ++ [⟨placeP n (setK to ((n + i : Nat) : Int) ((n + out.length : Nat) : Int)) s.a, placeP n (setK to ((n + i : Nat) : Int) ((n + out.length : Nat) : Int)) s.b, s.on⟩])
    else trimR n u l (i + 1) to out
def trimP (f : Fm) (l : List Ps) : List Ps := trimR f.l.length (inU f l) l 0 [] []
theorem trimR_no (n : Nat) : ∀ (l : List Ps) (i : Nat) (to : List (Int × Int)) (out : List Ps), trimR n (fun _ => false) l i to out = out
  | [], _, _, _ => rfl
  | s :: l, i, to, out => by simp [trimR, trimR_no n l]
set_option maxHeartbeats 4000000 in
theorem trim_e (hx : TXP ext) (f : Fm) (hs : Short f) (l : List Ps) (hll : l.length ≤ 10000) (hft : rightP f = true → Fits f l) : G ext 21 [f.av, .d (.sl (l.map rowS))] [] = some (.ret (.d (.sl ((trimP f l).map rowS))), []) := by
  have hu := used_e hx f hs l hll hft
  have r1 := refsM_kE
  have r2 := refsM_kV
  have r3 := renM_kE
  have r4 := renM_kV
  have hfl : (f.l.map rowC).length = f.l.length := List.length_map _
  have hls : (l.map rowS).length = l.length := List.length_map _
  have hfs := hs.l
  have hk0 : kV [] = [] := rfl
  unfold usedA at hu
  unfold trimP inU
  generalize emptyP f l = e at hu
  have hx := hx.toTX
  by_cases h1 : e = -1
  · simp only [h1, if_true, Fm.av] at hu ⊢
    rw [trimR_no]
    rw [G_body hx.clear rfl Try.func21 rfl Try.results21 hv_21 rfl]
    simp (config := { maxSteps := 4000000 }) (disch := first | (intros; contradiction) | omega) only [go_sem, hu]
    generalize hL : loopA _ _ _ = L
    apply range_upd hL (by simp (config := { maxSteps := 4000000 }) (disch := first | (intros; contradiction) | omega) only [go_sem] <;> rfl) l rowS (α := Unit) (fun rest k _ => True) (fun k _ => [(21, .d (.int .i64 k))]) (fun _ _ => []) () (by simp (config := { maxSteps := 4000000 }) (disch := first | (intros; contradiction) | omega) only [go_sem] <;> rfl) trivial ?_ ?_
    · rintro c rest k _ _ hlt hrow hget hk _ next ih
      clear hL
      simp only [rowS] at hrow
      have hwk : IntKind.wrap .i64 ((k : Int) + 1) = ((k + 1 : Nat) : Int) := by rw [wrap64 (by omega) (by omega)]; omega
      have hw : IntKind.wrap .i64 (((f.l.map rowC).length : Int) + (k : Int)) = ((f.l.length + k : Nat) : Int) := by rw [wrap64 (by omega) (by omega)]; omega
      simp (config := { maxSteps := 4000000 }) (disch := first | (intros; contradiction) | omega) only [go_sem, hlt, hrow, hwk, hw]
      exact ih () _ trivial (by simp (config := { maxSteps := 4000000 }) (disch := first | (intros; contradiction) | omega) only [go_sem] <;> rfl)
    · rintro k _ _ hlt hk next
      clear hL
      simp (config := { maxSteps := 4000000 }) (disch := first | (intros; contradiction) | omega) only [go_sem, hlt, List.map_nil]
  · simp only [h1, if_false, Fm.av] at hu ⊢
    generalize usedP f.l.length l e = s at hu ⊢
    rw [G_body hx.clear rfl Try.func21 rfl Try.results21 hv_21 rfl]
    simp (config := { maxSteps := 4000000 }) (disch := first | (intros; contradiction) | omega) only [go_sem, hu, r1, r3]
    generalize hL : loopA _ _ _ = L
    apply range_upd hL (by simp (config := { maxSteps := 4000000 }) (disch := first | (intros; contradiction) | omega) only [go_sem, r1, r2, r3, r4] <;> rfl) l rowS (α := List (Int × Int) × List Ps) (fun rest k q => trimR f.l.length (fun x => decide (x ∈ s)) l 0 [] [] = trimR f.l.length (fun x => decide (x ∈ s)) rest k q.1 q.2 ∧ q.2.length ≤ k) (fun k q => [(4, .grow 1 q.2.length (q.2.map rowS)), (21, .d (.int .i64 k))])
      (fun k q => [(1, .grow q.2.length 3), (4, .mapo (kV q.1))]) ([], []) (by simp (config := { maxSteps := 4000000 }) (disch := first | (intros; contradiction) | omega) only [go_sem, r1, r2, r3, r4] <;> rfl) ⟨rfl, Nat.le_refl _⟩ ?_ ?_
    · rintro q rest k ⟨to, out⟩ ⟨i1, i2⟩ hlt hrow hget hk _ next ih
      simp only at i1 i2 ih ⊢
      clear hL
      simp only [rowS] at hrow
      have hwk : IntKind.wrap .i64 ((k : Int) + 1) = ((k + 1 : Nat) : Int) := by rw [wrap64 (by omega) (by omega)]; omega
      have hw : IntKind.wrap .i64 (((f.l.map rowC).length : Int) + (k : Int)) = ((f.l.length + k : Nat) : Int) := by rw [wrap64 (by omega) (by omega)]; omega
      have hol : (out.map rowS).length = out.length := List.length_map _
      have hw2 : IntKind.wrap .i64 (((f.l.map rowC).length : Int) + ((out.map rowS).length : Int)) = ((f.l.length + out.length : Nat) : Int) := by rw [wrap64 (by omega) (by omega)]; omega
      have hroom : room ((out.map rowS).length + 1) 24 := by rw [List.length_map]; unfold room; simp; omega
      have hfi := findM_kE ((f.l.length + k : Nat) : Int) s
      simp only [trimR, decide_eq_true_eq] at i1
      by_cases hm : ((f.l.length + k : Nat) : Int) ∈ s
      · rw [if_pos hm] at hfi i1
        have hse := setM_kV ((f.l.length + k : Nat) : Int) ((f.l.length + out.length : Nat) : Int) to
        generalize setK to ((f.l.length + k : Nat) : Int) ((f.l.length + out.length : Nat) : Int) = to2 at hse i1
        have hp1 := place_e hx ((f.l.map rowC).length : Int) q.a to2
        have hp2 := place_e hx ((f.l.map rowC).length : Int) q.b to2
        have hpl : (((f.l.map rowC).length : Nat) : Int) = ((f.l.length : Nat) : Int) := by omega
        rw [← hpl] at i1
        simp (config := { maxSteps := 4000000 }) (disch := first | (intros; contradiction) | omega) only [go_sem, hlt, hrow, hwk, hw, hw2, hfi, hse, hp1, hp2, hroom, r1, r2, r3, r4]
        exact ih (to2, out ++ [⟨placeP ((f.l.map rowC).length : Int) to2 q.a, placeP ((f.l.map rowC).length : Int) to2 q.b, q.on⟩]) _ ⟨i1, by simp; omega⟩ (by simp (config := { maxSteps := 4000000 }) (disch := first | (intros; contradiction) | omega) only [go_sem, r1, r2, r3, r4, List.map_append, List.map_cons, List.map_nil, rowS] <;> rfl)
      · rw [if_neg hm] at hfi i1
        simp (config := { maxSteps := 4000000 }) (disch := first | (intros; contradiction) | omega) only [go_sem, hlt, hrow, hwk, hw, hfi, r1, r2, r3, r4]
        exact ih (to, out) _ ⟨i1, Nat.le_succ_of_le i2⟩ (by simp (config := { maxSteps := 4000000 }) (disch := first | (intros; contradiction) | omega) only [go_sem, r1, r2, r3, r4] <;> rfl)
    · rintro k ⟨to, out⟩ ⟨i1, i2⟩ hlt hk next
      clear hL
      rw [i1]
      simp only [trimR]
      simp (config := { maxSteps := 4000000 }) (disch := first | (intros; contradiction) | omega) only [go_sem, hlt, r1, r2, r3, r4]
end Go.Proofs.Ytchedkjlhjfadaa
