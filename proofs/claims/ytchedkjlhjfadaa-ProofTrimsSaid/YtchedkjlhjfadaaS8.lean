/- Pure literals: the program's, and the document's. Conditions: none. -/
import Derived.Test.YtchedkjlhjfadaaS6
set_option linter.unusedSimpArgs false
set_option linter.unusedVariables false
namespace Go.Proofs.Ytchedkjlhjfadaa
open Go Go.Ab
variable {ext : Sem'}
def inF (fl : List (List Int)) (x : Int) : Bool := fl.any fun c => hasP c x
def pureV (fl : List (List Int)) (v : Int) : List Int := if inF fl v = true ∧ inF fl (0 - v) = false then [v] else if inF fl (0 - v) = true ∧ inF fl v = false then [0 - v] else []
/-- The pure literals of the first variables. -/
def pureL (fl : List (List Int)) : Nat → List Int
  | 0 => []
  | k + 1 => pureL fl k ++ pureV fl ((k : Int) + 1)
theorem pureV_len (fl : List (List Int)) (v : Int) : (pureV fl v).length ≤ 1 := by unfold pureV; split <;> (try split) <;> simp
theorem pureL_len (fl : List (List Int)) : ∀ k, (pureL fl k).length ≤ k
  | 0 => Nat.le_refl _
  | k + 1 => by have := pureL_len fl k; have := pureV_len fl ((k : Int) + 1); simp only [pureL, List.length_append]; omega
theorem inF_snoc {fl : List (List Int)} {k : Nat} {c : List Int} (h : fl[k]? = some c) (x : Int) : inF (fl.take (k + 1)) x = (inF (fl.take k) x || hasP c x) := by
  unfold inF
  rw [List.take_add_one, h]
  simp
/-- A set of numbers, as a map. -/
def kE (s : List Int) : List (AV × AV) := s.map fun x => (.d (.int .i64 x), .d (.bool true))
theorem refsM_kE : ∀ s : List Int, refsM (kE s) = []
  | [] => rfl
  | x :: s => by have := refsM_kE s; simp only [kE, List.map_cons, refsM] at this ⊢; rw [this]; rfl
theorem findM_kE (x : Int) : ∀ s : List Int, findM (.int .i64) (.d (.int .i64 x)) (kE s) = some (if x ∈ s then some (.d (.bool true)) else none)
  | [] => by simp [kE, findM, keyEq]
  | y :: s => by
    have ih := findM_kE x s
    simp only [kE, List.map_cons, findM, keyEq] at ih ⊢
    by_cases h : x = y
    · simp [h]
    · simp only [and_self, if_true, h, decide_false]
      rw [ih]
      simp [h]
def addK (s : List Int) (x : Int) : List Int := if x ∈ s then s else s ++ [x]
theorem mem_addK {s : List Int} {x y : Int} : y ∈ addK s x ↔ y ∈ s ∨ y = x := by
  unfold addK
  split
  · rename_i h
    exact ⟨.inl, fun h' => h'.elim id (fun e => e ▸ h)⟩
  · simp
theorem setM_kE (x : Int) : ∀ s : List Int, setM (.int .i64) (.d (.int .i64 x)) (.d (.bool true)) (kE s) = some (kE (addK s x))
  | [] => by simp [kE, setM, keyEq, addK]
  | y :: s => by
    have ih := setM_kE x s
    simp only [kE, List.map_cons, setM, keyEq] at ih ⊢
    by_cases h : x = y
    · simp [h, addK]
    · simp only [and_self, if_true, h, decide_false]
      rw [ih]
      unfold addK
      by_cases hm : x ∈ s
      · rw [if_pos hm, if_pos (by simp [hm])]; rfl
      · rw [if_neg hm, if_neg (by simp [h, hm])]; rfl
set_option maxHeartbeats 2000000 in
theorem pure_e (hx : TX ext) (f : Fm) (hs : Short f) (hr : rightP f = true) : G ext 29 [f.av] [] = some (.ret (.d (.sl ((pureL f.l f.n.toNat).map rowI))), []) := by
  obtain ⟨q1, q2, q3⟩ := right_inv hr
  have hrt := right_e hx f hs
  rw [hr] at hrt
  have hll : (f.l.map rowC).length = f.l.length := List.length_map _
  have hsl := hs.l
  have r1 := refsM_kE
  simp only [Fm.av] at hrt
  rw [G_body hx.clear rfl Try.func29 rfl Try.results29 hv_29 rfl]
  simp only [Fm.av]
  simp (config := { maxSteps := 4000000 }) (disch := first | (intros; contradiction) | omega) only [go_sem, hrt]
  generalize hL : loopA _ _ _ = L
  apply range_upd hL (by simp (config := { maxSteps := 4000000 }) (disch := first | (intros; contradiction) | omega) only [go_sem] <;> rfl) f.l rowC (α := List Int) (fun rest k s => ∀ x, x ∈ s ↔ inF (f.l.take k) x = true) (fun k s => [(5, .any), (7, .any), (16, .d (.int .i64 k)), (20, .any), (21, .any), (22, .any)]) (fun k s => [(2, .mapo (kE s))]) [] (by simp (config := { maxSteps := 4000000 }) (disch := first | (intros; contradiction) | omega) only [go_sem] <;> rfl) (by simp [inF]) ?_ ?_
  · rintro c rest k s hi hlt hr2 hget hk _ next ih
    clear hL
    have hcs := hs.c c (List.mem_of_getElem? hget)
    have hcl : (c.map rowI).length = c.length := List.length_map _
    simp only [rowC] at hr2
    simp (config := { maxSteps := 4000000 }) (disch := first | (intros; contradiction) | omega) only [go_sem, hlt, hr2, r1]
    generalize hL : loopA _ _ _ = L
    apply range_upd hL (by simp (config := { maxSteps := 4000000 }) (disch := first | (intros; contradiction) | omega) only [go_sem, r1] <;> rfl) c rowI (α := List Int) (fun rest j t => ∀ x, x ∈ t ↔ x ∈ s ∨ x ∈ c.take j) (fun j t => [(7, .any), (22, .d (.int .i64 j))]) (fun j t => [(2, .mapo (kE t))]) s (by simp (config := { maxSteps := 4000000 }) (disch := first | (intros; contradiction) | omega) only [go_sem] <;> rfl) (by simp) ?_ ?_
    · rintro x rest2 j t hi2 hlt2 hr3 hget2 hj _ next2 ih2
      clear hL
      simp only [rowI] at hr3
      have hset := setM_kE x t
      simp (config := { maxSteps := 4000000 }) (disch := first | (intros; contradiction) | omega) only [go_sem, hlt2, hr3, hset, r1, wrap64]
      refine ih2 (addK t x) _ (fun y => ?_) (by simp (config := { maxSteps := 4000000 }) (disch := first | (intros; contradiction) | omega) only [go_sem, r1] <;> rfl)
      rw [mem_addK, hi2, List.take_add_one, hget2]
      simp [or_assoc]
    · rintro j t hi2 hlt2 hj next2
      clear hL
      simp (config := { maxSteps := 4000000 }) (disch := first | (intros; contradiction) | omega) only [go_sem, hlt2, r1, wrap64]
      refine ih t _ (fun y => ?_) (by simp (config := { maxSteps := 4000000 }) (disch := first | (intros; contradiction) | omega) only [go_sem, r1] <;> rfl)
      rw [hi2, hi, inF_snoc hget, hj, List.take_length, Bool.or_eq_true]
      simp [hasP]
  · rintro k s hi hlt hk next
    clear hL
    have hin : ∀ x, (x ∈ s) = (inF f.l x = true) := fun x => propext (by rw [hi, hk, List.take_length])
    have hfind : ∀ x, findM (.int .i64) (.d (.int .i64 x)) (kE s) = some (if inF f.l x = true then some (.d (.bool true)) else none) := fun x => by rw [findM_kE]; simp only [hin]
    clear hi
    simp (config := { maxSteps := 4000000 }) (disch := first | (intros; contradiction) | omega) only [go_sem, hlt, r1]
    generalize hL : loopA _ _ _ = L
    apply loop_upd hL (by simp (config := { maxSteps := 4000000 }) (disch := first | (intros; contradiction) | omega) only [go_sem, r1] <;> rfl) (α := Nat × Nat) (fun p => p.1 ≤ f.n.toNat) (fun p => f.n.toNat - p.1) (fun p => [(2, .grow 1 p.2 ((pureL f.l p.1).map rowI)), (8, .d (.int .i64 ((p.1 : Int) + 1)))]) (fun p => [(1, .grow p.2 1)]) (0, 0) (by simp (config := { maxSteps := 4000000 }) (disch := first | (intros; contradiction) | omega) only [go_sem] <;> rfl) (by simp) ?_
    rintro ⟨v, e⟩ hv next2 ih2
    simp only at hv ih2 ⊢
    clear hL
    have hpl := pureL_len f.l v
    have hpl2 : ((pureL f.l v).map rowI).length ≤ v := by rw [List.length_map]; exact hpl
    by_cases hvn : v < f.n.toNat
    · have hle : (v : Int) + 1 ≤ f.n := by omega
      have hneg : IntKind.wrap .i64 (0 - ((v : Int) + 1)) = 0 - ((v : Int) + 1) := wrap64 (by omega) (by omega)
      have hw : IntKind.wrap .i64 ((v : Int) + 1 + 1) = ((v + 1 : Nat) : Int) + 1 := by rw [wrap64 (by omega) (by omega)]; omega
      have hroom : room (((pureL f.l v).map rowI).length + 1) 8 := room8 (by omega)
      have f1 := hfind ((v : Int) + 1)
      have f2 := hfind (0 - ((v : Int) + 1))
      have hsu : pureL f.l (v + 1) = pureL f.l v ++ pureV f.l ((v : Int) + 1) := rfl
      unfold pureV at hsu
      generalize hv1 : (v : Int) + 1 = v1 at hle hneg hw f1 f2 hsu ⊢
      obtain ⟨nv, hnv⟩ : ∃ nv, 0 - v1 = nv := ⟨_, rfl⟩
      rw [hnv] at f2
      have hneg : IntKind.wrap .i64 (0 - v1) = nv := by rw [hneg, hnv]
      simp only [hnv] at hsu
      cases b1 : inF f.l v1 <;> cases b2 : inF f.l nv <;> rw [b1] at f1 <;> rw [b2] at f2 <;> simp only [b1, b2, Bool.false_eq_true, if_true, if_false, and_self, and_true, true_and, and_false, false_and, List.append_nil] at f1 f2 hsu
      · simp (config := { maxSteps := 4000000 }) (disch := first | (intros; contradiction) | omega) only [go_sem, hle, hneg, f1, f2, hw, r1]
        exact ih2 (v + 1, e) _ (by simp only; omega) (by simp only; omega) (by simp only; rw [hsu]; simp (config := { maxSteps := 4000000 }) (disch := first | (intros; contradiction) | omega) only [go_sem, r1] <;> rfl)
      · simp (config := { maxSteps := 4000000 }) (disch := first | (intros; contradiction) | omega) only [go_sem, hle, hneg, f1, f2, hw, hroom, r1]
        exact ih2 (v + 1, e + 1) _ (by simp only; omega) (by simp only; omega) (by simp only; rw [hsu]; simp (config := { maxSteps := 4000000 }) (disch := first | (intros; contradiction) | omega) only [go_sem, r1, List.map_append, List.map_cons, List.map_nil, rowI] <;> rfl)
      · simp (config := { maxSteps := 4000000 }) (disch := first | (intros; contradiction) | omega) only [go_sem, hle, hneg, f1, f2, hw, hroom, r1]
        exact ih2 (v + 1, e + 1) _ (by simp only; omega) (by simp only; omega) (by simp only; rw [hsu]; simp (config := { maxSteps := 4000000 }) (disch := first | (intros; contradiction) | omega) only [go_sem, r1, List.map_append, List.map_cons, List.map_nil, rowI] <;> rfl)
      · simp (config := { maxSteps := 4000000 }) (disch := first | (intros; contradiction) | omega) only [go_sem, hle, hneg, f1, f2, hw, r1]
        exact ih2 (v + 1, e) _ (by simp only; omega) (by simp only; omega) (by simp only; rw [hsu]; simp (config := { maxSteps := 4000000 }) (disch := first | (intros; contradiction) | omega) only [go_sem, r1] <;> rfl)
    · have hle : ¬ (v : Int) + 1 ≤ f.n := by omega
      have hvv : v = f.n.toNat := by omega
      subst hvv
      simp (config := { maxSteps := 4000000 }) (disch := first | (intros; contradiction) | omega) only [go_sem, hle, r1]
end Go.Proofs.Ytchedkjlhjfadaa
