/- cnf: which formulas are right, and true. Conditions: none. -/
import Derived.Test.YtchedkjlhjfadaaC4
set_option linter.unusedSimpArgs false
set_option linter.unusedVariables false
namespace Go.Proofs.Ytchedkjlhjfadaa
open Go Go.Ab
variable {ext : Sem'}
theorem literal_e (hx : T0 ext) (n x : Int) : G ext 85 [.d (.int .i64 n), .d (.int .i64 x)] [] = some (.ret (.d (.bool (litP n x))), []) := by
  rw [G_body hx.clear rfl Try.func85 rfl Try.results85 hv_85 rfl]
  unfold litP
  by_cases h1 : x = 0
  · simp (config := { maxSteps := 4000000 }) (disch := first | (intros; contradiction) | omega) only [go_sem, h1] <;> rfl
  · by_cases h2 : x ≤ n
    · by_cases h3 : IntKind.wrap .i64 (0 - n) ≤ x
      · simp (config := { maxSteps := 4000000 }) (disch := first | (intros; contradiction) | omega) only [go_sem, h1, h2, h3, ne_eq, not_false_eq_true]
      · simp (config := { maxSteps := 4000000 }) (disch := first | (intros; contradiction) | omega) only [go_sem, h1, h2, h3, ne_eq, not_false_eq_true]
    · simp (config := { maxSteps := 4000000 }) (disch := first | (intros; contradiction) | omega) only [go_sem, h1, h2, ne_eq, not_false_eq_true]
theorem rlit_e (hx : TX ext) (n x : Int) : G ext 44 [.d (.int .i64 n), .d (.int .i64 x)] [] = some (.ret (.d (.bool (litP n x))), []) := by
  rw [G_body hx.clear rfl Try.func44 rfl Try.results44 hv_44 rfl]
  unfold litP
  by_cases h1 : x = 0
  · simp (config := { maxSteps := 4000000 }) (disch := first | (intros; contradiction) | omega) only [go_sem, h1] <;> rfl
  · by_cases h2 : x ≤ n
    · by_cases h3 : IntKind.wrap .i64 (0 - n) ≤ x
      · simp (config := { maxSteps := 4000000 }) (disch := first | (intros; contradiction) | omega) only [go_sem, h1, h2, h3, ne_eq, not_false_eq_true]
      · simp (config := { maxSteps := 4000000 }) (disch := first | (intros; contradiction) | omega) only [go_sem, h1, h2, h3, ne_eq, not_false_eq_true]
    · simp (config := { maxSteps := 4000000 }) (disch := first | (intros; contradiction) | omega) only [go_sem, h1, h2, ne_eq, not_false_eq_true]
theorem all1_e (hx : T0 ext) (n x : Int) : G ext 84 [.d (.int .i64 x), .ptr 0 0] [.cells [.d (.int .i64 n)]] = some (.ret (.d (.bool (!litP n x))), [.cells [.d (.int .i64 n)]]) := by
  have h := literal_e hx n x
  rw [G_body hx.clear rfl Try.func84 rfl Try.results84 hv_84 rfl]
  simp (config := { maxSteps := 4000000 }) (disch := first | (intros; contradiction) | omega) only [go_sem, h]
theorem contains1_e (hx : T0 ext) (F : Nat) (p : Int → Bool) (cs : List AV) (k1 : (cs.map refs).flatten = []) (k2 : ∀ f, cs.map (ren f) = cs) (l : List Int) (hl : l.length ≤ 1000000) (hp : ∀ x, x ∈ l → G ext F [.d (.int .i64 x), .ptr 0 0] [.cells cs] = some (.ret (.d (.bool (p x))), [.cells cs])) :
    G ext 83 [.d (.sl (l.map rowI)), .fn F [] [.ptr 0 0]] [.cells cs] = some (.ret (.d (.bool (l.any p))), [.cells cs]) := by
  have hi := index1_e hx F p cs k1 k2 l hl hp
  rw [← idxN_any]
  rw [G_body hx.clear rfl Try.func83 rfl Try.results83 hv_83 rfl]
  simp (config := { maxSteps := 4000000 }) (disch := first | (intros; contradiction) | omega) only [go_sem, k1, k2, hi]
theorem any_not {α : Type} (p : α → Bool) (l : List α) : (l.any fun x => !p x) = !l.all p := by rw [List.any_eq_not_all_not]; simp
theorem all_e (hx : T0 ext) (n : Int) (c : List Int) (hl : c.length ≤ 1000000) : G ext 62 [.d (.int .i64 n), .d (.sl (c.map rowI))] [] = some (.ret (.d (.bool (allP n c))), []) := by
  have h := contains1_e hx 84 (fun x => !litP n x) [.d (.int .i64 n)] rfl (fun _ => rfl) c hl (fun x _ => all1_e hx n x)
  rw [any_not] at h
  rw [G_body hx.clear rfl Try.func62 rfl Try.results62 hv_62 rfl]
  unfold allP
  simp (config := { maxSteps := 4000000 }) (disch := first | (intros; contradiction) | omega) only [go_sem, h, Bool.not_not]
theorem right1_e (hx : TX ext) (f : Fm) (c : List Int) (hl : c.length ≤ 1000000) : G ext 61 [.d (.sl (c.map rowI)), .ptr 0 0] [.cells [.d (.int .i64 f.n), .d (.sl (f.l.map rowC))]] = some (.ret (.d (.bool (!allP f.n c))), [.cells [.d (.int .i64 f.n), .d (.sl (f.l.map rowC))]]) := by
  have h := all_e hx.toT0 f.n c hl
  rw [G_body hx.clear rfl Try.func61 rfl Try.results61 hv_61 rfl]
  simp (config := { maxSteps := 4000000 }) (disch := first | (intros; contradiction) | omega) only [go_sem, h]
/-- slices.IndexFunc of clauses, a function with one cell. -/
theorem indexc_e (hx : TX ext) (F : Nat) (p : List Int → Bool) (cs : List AV) (k1 : (cs.map refs).flatten = []) (k2 : ∀ f, cs.map (ren f) = cs) (l : List (List Int)) (hl : l.length ≤ 1000000) (hp : ∀ x, x ∈ l → G ext F [.d (.sl (x.map rowI)), .ptr 0 0] [.cells cs] = some (.ret (.d (.bool (p x))), [.cells cs])) :
    G ext 68 [.d (.sl (l.map rowC)), .fn F [] [.ptr 0 0]] [.cells cs] = some (.ret (.d (.int .i64 (idxN p l))), [.cells cs]) := by
  have hll : (l.map rowC).length = l.length := List.length_map _
  rw [G_body hx.clear rfl Try.func68 rfl Try.results68 hv_68 rfl]
  simp (config := { maxSteps := 4000000 }) (disch := first | (intros; contradiction) | omega) only [go_sem, k1]
  generalize hL : loopA _ _ _ = L
  apply range_upd hL (by simp (config := { maxSteps := 4000000 }) (disch := first | (intros; contradiction) | omega) only [go_sem, k1, k2] <;> rfl) l rowC (α := Unit) (fun rest k _ => idxP p l = (idxP p rest).map (k + ·)) (fun k _ => [(5, .any), (8, .d (.int .i64 k))]) (fun _ _ => []) () (by simp (config := { maxSteps := 4000000 }) (disch := first | (intros; contradiction) | omega) only [go_sem, k1, k2] <;> rfl) (by simp) ?_ ?_
  · intro x rest k _ hi hlt hr hxx hk _ next ih
    clear hL
    have hc := hp x (List.mem_of_getElem? hxx)
    simp only [rowC] at hr
    simp only [idxP] at hi
    cases hpx : p x with
    | true =>
      rw [hpx] at hc hi
      have h1 : idxN p l = k := by unfold idxN; rw [hi]; simp
      rw [h1]
      simp (config := { maxSteps := 4000000 }) (disch := first | (intros; contradiction) | omega) only [go_sem, k1, k2, hlt, hr, hc]
    | false =>
      rw [hpx] at hc hi
      simp (config := { maxSteps := 4000000 }) (disch := first | (intros; contradiction) | omega) only [go_sem, k1, k2, hlt, hr, hc, wrap64]
      exact ih () _ (by rw [hi]; simp only [Bool.false_eq_true, if_false, Option.map_map]; congr 1; funext n; simp only [Function.comp]; omega) (by simp (config := { maxSteps := 4000000 }) (disch := first | (intros; contradiction) | omega) only [go_sem, k1, k2] <;> rfl)
  · intro k _ hi hlt hk next
    clear hL
    have h1 : idxN p l = -1 := by unfold idxN; rw [hi]; rfl
    rw [h1]
    simp (config := { maxSteps := 4000000 }) (disch := first | (intros; contradiction) | omega) only [go_sem, k1, hlt]
theorem containsc_e (hx : TX ext) (F : Nat) (p : List Int → Bool) (cs : List AV) (k1 : (cs.map refs).flatten = []) (k2 : ∀ f, cs.map (ren f) = cs) (l : List (List Int)) (hl : l.length ≤ 1000000) (hp : ∀ x, x ∈ l → G ext F [.d (.sl (x.map rowI)), .ptr 0 0] [.cells cs] = some (.ret (.d (.bool (p x))), [.cells cs])) :
    G ext 60 [.d (.sl (l.map rowC)), .fn F [] [.ptr 0 0]] [.cells cs] = some (.ret (.d (.bool (l.any p))), [.cells cs]) := by
  have hi := indexc_e hx F p cs k1 k2 l hl hp
  rw [← idxN_any]
  rw [G_body hx.clear rfl Try.func60 rfl Try.results60 hv_60 rfl]
  simp (config := { maxSteps := 4000000 }) (disch := first | (intros; contradiction) | omega) only [go_sem, k1, k2, hi]
def rightP (f : Fm) : Bool := !decide (f.n < 0) && (!decide (100000 < f.n) && (!decide (200000 < (f.l.length : Int)) && f.l.all (allP f.n)))
/-- A formula that is short. -/
structure Short (f : Fm) : Prop where
  l : f.l.length ≤ 1000
  c : ∀ c, c ∈ f.l → c.length ≤ 3000
set_option maxHeartbeats 1000000 in
theorem right_e (hx : TX ext) (f : Fm) (hs : Short f) : G ext 41 [f.av] [] = some (.ret (.d (.bool (rightP f))), []) := by
  have h := containsc_e hx 61 (fun c => !allP f.n c) [.d (.int .i64 f.n), .d (.sl (f.l.map rowC))] rfl (fun _ => rfl) f.l (by have := hs.l; omega) (fun c hc => right1_e hx f c (by have := hs.c c hc; omega))
  rw [any_not] at h
  have hll : (f.l.map rowC).length = f.l.length := List.length_map _
  rw [G_body hx.clear rfl Try.func41 rfl Try.results41 hv_41 rfl]
  unfold rightP
  simp only [Fm.av]
  have h3 : ¬ (200000 : Int) < (f.l.length : Int) := by have := hs.l; omega
  have h3' : ¬ (200000 : Int) < ((f.l.map rowC).length : Int) := by have := hs.l; omega
  rw [decide_eq_false h3]
  by_cases h1 : f.n < 0
  · simp (config := { maxSteps := 4000000 }) (disch := first | (intros; contradiction) | omega) only [go_sem, h1] <;> rfl
  · by_cases h2 : 100000 < f.n
    · simp (config := { maxSteps := 4000000 }) (disch := first | (intros; contradiction) | omega) only [go_sem, h1, h2] <;> rfl
    · simp (config := { maxSteps := 4000000 }) (disch := first | (intros; contradiction) | omega) only [go_sem, h1, h2, h3', h, Bool.not_not]
end Go.Proofs.Ytchedkjlhjfadaa
