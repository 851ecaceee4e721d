/- token: signs, and what comes next. Conditions: none. -/
import Derived.Test.YtknonjnbeajooaaT4
namespace Go.Proofs.Ytknonjnbeajooaa
open Go Go.Ab
variable {ext : Sem'}
def strs (l : List (List UInt8)) : Dt := .sl (l.map fun x => [.str x])
theorem strs_at (l : List (List UInt8)) (i : Nat) (h : i < l.length) : (l.map fun x => [Dt.str x])[i]? = some [.str l[i]] := by
  rw [List.getElem?_map, List.getElem?_eq_getElem h]; rfl
def findI (v : List UInt8) : List (List UInt8) → Option Nat
  | [] => none
  | a :: l => if v = a then some 0 else (findI v l).map (· + 1)
def findN (v : List UInt8) (l : List (List UInt8)) : Int := match findI v l with
  | some i => i
  | none => -1
theorem findI_mem {v : List UInt8} : ∀ {l : List (List UInt8)}, (findI v l).isSome = decide (v ∈ l)
  | [] => rfl
  | a :: l => by
    simp only [findI]
    split
    · rename_i h; simp [h]
    · rename_i h
      have := findI_mem (v := v) (l := l)
      simp [h, this]
theorem index_e (hx : TX ext) (l : List (List UInt8)) (v : List UInt8) (hl : l.length ≤ 1000) : G ext 51 [.d (strs l), .d (.str v)] [] = some (.ret (.d (.int .i64 (findN v l))), []) := by
  rw [G_body hx.clear rfl Try.func51 rfl Try.results51 hv_51 rfl]
  unfold strs
  simp (config := { maxSteps := 4000000 }) (disch := first | (intros; contradiction) | omega) only [go_sem, List.length_map]
  generalize hL : loopA _ _ _ = L
  apply loop_post hL (fun k : Nat => k ≤ l.length ∧ findI v l = (findI v (l.drop k)).map (· + k)) (fun k => l.length - k)
    (fun k => ⟨[(0, .d (.sl (l.map fun x => [.str x]))), (1, .d (.str v)), (4, .d (.int .i64 0)), (5, .any), (7, .d (.int .i64 l.length)), (8, .d (.int .i64 k))], [], []⟩)
    0 (by simp (config := { maxSteps := 4000000 }) (disch := first | (intros; contradiction) | omega) only [go_sem] <;> rfl) ⟨Nat.zero_le _, by simp⟩
  intro k hk next ih
  by_cases h : k < l.length
  · have hc := strs_at l k h
    have h' : (k : Int) < l.length := by omega
    rw [List.drop_eq_getElem_cons h] at hk
    simp only [findI] at hk
    by_cases he : v = l[k]
    · rw [if_pos he] at hk
      have hr : findN v l = k := by unfold findN; rw [hk.2]; simp
      rw [hr]
      simp (config := { maxSteps := 4000000 }) (disch := first | (intros; contradiction) | omega) only [go_sem, hc, h', he]
    · rw [if_neg he] at hk
      simp (config := { maxSteps := 4000000 }) (disch := first | (intros; contradiction) | omega) only [go_sem, hc, h', he, wrap64]
      exact ih (k + 1) _ ⟨by omega, by rw [hk.2, Option.map_map]; congr 1; funext x; simp; omega⟩ (by omega) (by simp (config := { maxSteps := 4000000 }) (disch := first | (intros; contradiction) | omega) only [go_sem] <;> rfl)
  · have h' : ¬ (k : Int) < l.length := by omega
    have hke : k = l.length := by omega
    subst hke
    have hr : findN v l = -1 := by unfold findN; rw [hk.2]; simp [findI]
    rw [hr]
    simp (config := { maxSteps := 4000000 }) (disch := first | (intros; contradiction) | omega) only [go_sem, h']
theorem contains_e (hx : TX ext) (l : List (List UInt8)) (v : List UInt8) (hl : l.length ≤ 1000) : G ext 47 [.d (strs l), .d (.str v)] [] = some (.ret (.d (.bool (decide (v ∈ l)))), []) := by
  rw [G_body hx.clear rfl Try.func47 rfl Try.results47 hv_47 rfl]
  rw [← findI_mem]
  have h := index_e hx l v hl
  unfold strs at h ⊢
  cases hf : findI v l with
  | none =>
    have : findN v l = -1 := by unfold findN; rw [hf]
    rw [this] at h
    simp (config := { maxSteps := 4000000 }) (disch := first | (intros; contradiction) | omega) only [go_sem, h, Option.isSome_none]
  | some i =>
    have : findN v l = i := by unfold findN; rw [hf]
    rw [this] at h
    have h0 : (0 : Int) ≤ i := by omega
    simp (config := { maxSteps := 4000000 }) (disch := first | (intros; contradiction) | omega) only [go_sem, h, h0, Option.isSome_some]
def signs2 : List (List UInt8) := [[45, 62], [60, 61], [62, 61], [61, 61], [33, 61]]
def signs1 : List UInt8 := [43, 45, 42, 47, 37, 60, 62, 33, 61, 40, 41, 123, 125, 44, 59]
def oneSign : List UInt8 → Bool
  | [] => false
  | c :: _ => decide (c ∈ signs1)
def signR (l : List UInt8) : LexR :=
  if 1 < l.length ∧ l.take 2 ∈ signs2 then .tok 4 2 0 else if oneSign l = true then .tok 4 1 0 else .bad 3
theorem idxI_mem {c : UInt8} {l : List UInt8} : (0 ≤ idxI l c) = (c ∈ l) := by
  unfold idxI
  apply propext
  cases h : idxB c l with
  | none => have := idxB_none h; simp [this]
  | some i => obtain ⟨a, b, rfl, _⟩ := idxB_some h; simp
theorem tsign_e (hx : TX ext) (c : UInt8) (t : List UInt8) (p : Int × Int) (hs : (c :: t).length ≤ 1048576) (hp : 1 ≤ p.1 ∧ p.1 + ((c :: t).length : Int) ≤ 4000000 ∧ 1 ≤ p.2 ∧ p.2 + ((c :: t).length : Int) ≤ 4000000) :
    G ext 41 [.ptr 0 0] [.cells [.d (.str (c :: t)), .d (.int .i64 p.1), .d (.int .i64 p.2)]] = some (lexOut (c :: t) p (signR (c :: t))) := by
  rw [G_body hx.clear rfl Try.func41 rfl Try.results41 hv_41 rfl]
  have hix := G_ext (hx.index signs1 c (by simp [signs1]))
  unfold signs1 at hix
  unfold signR
  have hco := contains_e hx signs2 (c :: t.take 1) (by simp [signs2])
  simp only [signs2, strs, List.map_cons, List.map_nil] at hco
  have hp1 := pass_e hx (c :: t) p 1 (by simp) hs (by omega)
  simp only [Int.natCast_one] at hp1
  by_cases hm : 1 < (c :: t).length ∧ (c :: t).take 2 ∈ signs2
  · rw [if_pos hm]
    have h1 : (1 : Int) < ((t.length + 1 : Nat) : Int) := by have := hm.1; simp at this; omega
    have h2 : (2 : Int) ≤ ((t.length + 1 : Nat) : Int) := by omega
    have hmd : c :: t.take 1 ∈ signs2 := hm.2
    unfold signs2 at hmd
    have hp2 := pass_e hx (c :: t) p 2 (by simp; omega) hs (by omega)
    simp only [Int.cast_ofNat_Int] at hp2
    simp only [hmd, decide_true] at hco
    simp only [lexOut, tokA]
    simp (config := { maxSteps := 4000000 }) (disch := first | (intros; contradiction) | omega) only [go_sem, h1, h2, hco, hp2]
  · rw [if_neg hm]
    by_cases h1 : (1 : Int) < ((t.length + 1 : Nat) : Int)
    all_goals
      cases hone : oneSign (c :: t) with
      | true =>
        rw [if_pos rfl]
        have hin : (0 ≤ idxI [43, 45, 42, 47, 37, 60, 62, 33, 61, 40, 41, 123, 125, 44, 59] c) := by rw [idxI_mem]; simpa [oneSign, signs1] using hone
        simp only [lexOut, tokA]
        first
          | (have h2 : (2 : Int) ≤ ((t.length + 1 : Nat) : Int) := by omega
             have hmd : ¬ (c :: t.take 1 ∈ [[45, 62], [60, 61], [62, 61], [61, 61], [33, 61]]) := fun h => hm ⟨by simp; omega, h⟩
             simp only [hmd, decide_false] at hco
             simp (config := { maxSteps := 4000000 }) (disch := first | (intros; contradiction) | omega) only [go_sem, h1, h2, hco, hix, hin, hp1])
          | (simp (config := { maxSteps := 4000000 }) (disch := first | (intros; contradiction) | omega) only [go_sem, h1, hix, hin, hp1])
      | false =>
        rw [if_neg (by simp)]
        have hin : ¬ (0 ≤ idxI [43, 45, 42, 47, 37, 60, 62, 33, 61, 40, 41, 123, 125, 44, 59] c) := by rw [idxI_mem]; simpa [oneSign, signs1] using hone
        simp only [lexOut, tokA]
        first
          | (have h2 : (2 : Int) ≤ ((t.length + 1 : Nat) : Int) := by omega
             have hmd : ¬ (c :: t.take 1 ∈ [[45, 62], [60, 61], [62, 61], [61, 61], [33, 61]]) := fun h => hm ⟨by simp; omega, h⟩
             simp only [hmd, decide_false] at hco
             simp (config := { maxSteps := 4000000 }) (disch := first | (intros; contradiction) | omega) only [go_sem, h1, h2, hco, hix, hin])
          | (simp (config := { maxSteps := 4000000 }) (disch := first | (intros; contradiction) | omega) only [go_sem, h1, hix, hin])
def lexR : List UInt8 → LexR
  | [] => .tok 5 0 0
  | c :: t => if isLetter c then wordR (c :: t) else if isDigit c then numberR (c :: t) else signR (c :: t)
theorem tnext_e (hx : TX ext) (s : List UInt8) (p : Int × Int) (hs : s.length ≤ 1048576) (hp : 1 ≤ p.1 ∧ p.1 + (s.length : Int) ≤ 4000000 ∧ 1 ≤ p.2 ∧ p.2 + (s.length : Int) ≤ 4000000) :
    G ext 24 [.ptr 0 0] [.cells [.d (.str s), .d (.int .i64 p.1), .d (.int .i64 p.2)]] = some (lexOut s p (lexR s)) := by
  rw [G_body hx.clear rfl Try.func24 rfl Try.results24 hv_24 rfl]
  cases s with
  | nil =>
    simp only [lexR, lexOut, tokA, adv, List.take_nil, List.drop_nil, List.foldl_nil]
    simp (config := { maxSteps := 4000000 }) (disch := first | (intros; contradiction) | omega) only [go_sem]
  | cons c t =>
    simp only [lexR]
    cases h1 : isLetter c with
    | true =>
      have hw := tword_e hx (c :: t) p hs hp
      rw [if_pos rfl]
      cases hR : wordR (c :: t) <;> (rw [hR] at hw; simp only [lexOut, tokA] at hw ⊢; simp (config := { maxSteps := 4000000 }) (disch := first | (intros; contradiction) | omega) only [go_sem, letter_e hx, h1, hw])
    | false =>
      rw [if_neg (by simp)]
      cases h2 : isDigit c with
      | true =>
        have hw := tnumber_e hx c t p hs hp
        rw [if_pos rfl]
        cases hR : numberR (c :: t) <;> (rw [hR] at hw; simp only [lexOut, tokA] at hw ⊢; simp (config := { maxSteps := 4000000 }) (disch := first | (intros; contradiction) | omega) only [go_sem, letter_e hx, digit_e hx, h1, h2, hw])
      | false =>
        have hw := tsign_e hx c t p hs hp
        rw [if_neg (by simp)]
        cases hR : signR (c :: t) <;> (rw [hR] at hw; simp only [lexOut, tokA] at hw ⊢; simp (config := { maxSteps := 4000000 }) (disch := first | (intros; contradiction) | omega) only [go_sem, letter_e hx, digit_e hx, h1, h2, hw])
end Go.Proofs.Ytknonjnbeajooaa
