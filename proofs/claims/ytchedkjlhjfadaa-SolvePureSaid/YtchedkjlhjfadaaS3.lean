/- solve's search: back, open, model. Conditions: none. -/
import Derived.Test.YtchedkjlhjfadaaS2
set_option linter.unusedSimpArgs false
set_option linter.unusedVariables false
namespace Go.Proofs.Ytchedkjlhjfadaa
open Go Go.Ab
variable {ext : Sem'}
/-- slices.Index of numbers that are to be changed. -/
theorem indexo_e (hx : TX ext) (l : List Int) (v : Int) (a : Int) (hl : l.length ≤ 1000000) : G ext 88 [.own 0 1 l.length 1, .d (.int .i64 v)] [.cells ((a :: l).map avI)] = some (.ret (.d (.int .i64 (indexZ l v))), [.cells ((a :: l).map avI)]) := by
  have hll : (l.map avI).length = l.length := List.length_map _
  have a1 := av_refs (a :: l)
  have a2 := fun f => av_ren f (a :: l)
  generalize hA : (a :: l).map avI = A at a1 a2 ⊢
  have hat : ∀ (k : Nat) (x : Int), l[k]? = some x → A[1 + k]? = some (.d (.int .i64 x)) := by
    intro k x h
    rw [← hA, List.getElem?_map, show 1 + k = k + 1 by omega, List.getElem?_cons_succ, h]
    rfl
  rw [G_body hx.clear rfl Try.func88 rfl Try.results88 hv_88 rfl]
  simp (config := { maxSteps := 4000000 }) (disch := first | (intros; contradiction) | omega) only [go_sem]
  generalize hL : loopA _ _ _ = L
  apply range_upd hL (by simp (config := { maxSteps := 4000000 }) (disch := first | (intros; contradiction) | omega) only [go_sem, a1] <;> rfl) l rowI (α := Unit) (fun rest k _ => indexZ l v = if indexZ rest v < 0 then -1 else indexZ rest v + k) (fun k _ => [(5, .any), (8, .d (.int .i64 k))]) (fun _ _ => []) () (by simp (config := { maxSteps := 4000000 }) (disch := first | (intros; contradiction) | omega) only [go_sem] <;> rfl) (by have := indexZ_lo l v; split <;> omega) ?_ ?_
  · intro x rest k _ hi hlt hr hxx hk _ next ih
    clear hL
    have hr := hat k x hxx
    have hlt : (k : Int) < (l.length : Int) := by omega
    by_cases hv : v = x
    · have e : indexZ l v = k := by rw [hi, indexZ, if_pos hv]; simp
      rw [e]
      have hv2 := eq_true hv
      have hv3 := eq_true hv.symm
      simp (config := { maxSteps := 4000000 }) (disch := first | (intros; contradiction) | omega) only [go_sem, hlt, hr, hv2, hv3, Nat.mul_one, a1, a2]
    · have hv3 : ¬ x = v := fun e => hv e.symm
      simp (config := { maxSteps := 4000000 }) (disch := first | (intros; contradiction) | omega) only [go_sem, hlt, hr, hv, hv3, Nat.mul_one, a1, a2, wrap64]
      refine ih () _ ?_ (by simp (config := { maxSteps := 4000000 }) (disch := first | (intros; contradiction) | omega) only [go_sem, a1] <;> rfl)
      have := indexZ_lo rest v
      rw [hi, indexZ, if_neg hv]
      split <;> split <;> (try split) <;> omega
  · intro k _ hi hlt hk next
    clear hL
    have hlt : ¬ (k : Int) < (l.length : Int) := by omega
    have e : indexZ l v = -1 := by rw [hi]; rfl
    rw [e]
    simp (config := { maxSteps := 4000000 }) (disch := first | (intros; contradiction) | omega) only [go_sem, hlt, a1]
section
variable (n : Nat) (fl : List (List Int))
theorem valsL_cons (val : Nat → Int) : valsL n val = val 0 :: (List.range n).map fun i => val (i + 1) := by
  unfold valsL
  rw [List.range_succ_eq_map, List.map_cons, List.map_map]
  rfl
theorem open_e (hx : TX ext) (hn : n ≤ 100000) (val : Nat → Int) (e k : Nat) (cs : List AV) (hc : DC cs) (steps : Int) : G ext 96 [.ptr 0 0] (srcO n fl val e k cs steps) = some (.ret (.d (.int .i64 (openZ val n))), srcO n fl val e k cs steps) := by
  have hi := indexo_e hx ((List.range n).map fun i => val (i + 1)) 0 (val 0) (by simp; omega)
  rw [← valsL_cons] at hi
  have hlo := indexZ_lo ((List.range n).map fun i => val (i + 1)) 0
  have hhi := indexZ_hi ((List.range n).map fun i => val (i + 1)) 0
  have hll : ((List.range n).map fun i => val (i + 1)).length = n := by simp
  rw [hll] at hi hhi
  have a1 := av_refs (valsL n val)
  have a2 := fun f => av_ren f (valsL n val)
  have c1 := hc.r1
  have c2 := hc.r2
  have hb : (0 : Int) ≤ 1 ∧ (1 : Int) ≤ ((n + 1 : Nat) : Int) := by omega
  have e1 : n + 1 - 1 = n := by omega
  rw [G_body hx.clear rfl Try.func96 rfl Try.results96 hv_96 rfl]
  unfold srcO openZ
  generalize indexZ ((List.range n).map fun i => val (i + 1)) 0 = z at hi hlo hhi ⊢
  simp (config := { maxSteps := 4000000 }) (disch := first | (intros; contradiction) | omega) only [go_sem, hi, a1, a2, c1, c2, hb, e1, wrap64]
theorem trok_last {p : Int × Int} {q : List (Int × Int)} {cs : List AV} (h : TrOk (p :: q) cs) : TrOk q cs ∧ (cs.drop (q.length * 2)).take 2 = [.d (.int .i64 p.1), .d (.int .i64 p.2)] ∧ q.length * 2 + 2 ≤ cs.length := by
  have hle := h.le
  have hp := h.pre
  simp only [List.length_cons] at hle hp
  rw [List.reverse_cons, trC_app, show (q.length + 1) * 2 = q.length * 2 + 2 by omega, List.take_add] at hp
  have hl : (cs.take (q.length * 2)).length = (trC q.reverse).length := by rw [trC_len, List.length_take, List.length_reverse]; omega
  obtain ⟨h1, h2⟩ := List.append_inj hp hl
  exact ⟨⟨h.dc, h1⟩, h2, by omega⟩
/-- What going back leaves. -/
def BackR (n : Nat) (fl : List (List Int)) (steps : Int) (out : Out × List AObj) : Option ((Nat → Int) × List (Int × Int) × Int) → Prop
  | none => ∃ e' cs', DC cs' ∧ out = (.ret (.d (.bool false)), trailO n fl [] e' cs' steps)
  | some (_, r', y) => ∃ e' cs', TrOk ((y, 2) :: r') cs' ∧ out = (.ret (.d (.bool true)), trailO n fl ((y, 2) :: r') e' cs' (steps + 1))
theorem back_e (hx : TX ext) (hn : n ≤ 100000) (r : List (Int × Int)) (ht : TrInv n r) (e : Nat) (cs : List AV) (hc : TrOk r cs) (steps : Int) (hs : 0 ≤ steps ∧ steps ≤ 100000000000000) :
    ∃ out, G ext 82 [.ptr 0 0] (trailO n fl r e cs steps) = some out ∧ BackR n fl steps out (backZ r (valR r)) := by
  have a1 := fun l => av_refs l
  have a2 := fun l f => av_ren f l
  have c1 := hc.dc.r1
  have c2 := hc.dc.r2
  have hrl := trInv_length ht
  have hw0 : IntKind.wrap .i64 ((r.length : Int) - 1) = (r.length : Int) - 1 := wrap64 (by omega) (by omega)
  rw [G_body hx.clear rfl Try.func82 rfl Try.results82 hv_82 rfl]
  unfold trailO srcO
  simp (config := { maxSteps := 4000000 }) (disch := first | (intros; contradiction) | omega) only [go_sem, hw0]
  generalize hL : loopA _ _ _ = L
  apply loop_upd hL (by simp (config := { maxSteps := 4000000 }) (disch := first | (intros; contradiction) | omega) only [go_sem, a1, c1] <;> rfl) (α := List (Int × Int)) (fun q => TrInv n q ∧ TrOk q cs ∧ backZ r (valR r) = backZ q (valR q)) (fun q => q.length)
    (fun q => [(3, .d (.int .i64 ((q.length : Int) - 1))), (4, .any)])
    (fun q => [(0, .cells [.d (.int .i64 n), .d (.sl (fl.map rowC)), .own 1 0 (n + 1) 1, .stk 2 e q.length, .d (.int .i64 steps)]), (1, .cells ((valsL n (valR q)).map avI))]) r (by simp (config := { maxSteps := 4000000 }) (disch := first | (intros; contradiction) | omega) only [go_sem] <;> rfl) ⟨ht, hc, rfl⟩ ?_
  rintro q ⟨i1, i2, i3⟩ next ih
  clear hL
  rw [i3]
  cases q with
  | nil =>
    refine ⟨_, ?_, e, cs, hc.dc, rfl⟩
    unfold trailO srcO
    have h0 : ¬ (0 : Int) ≤ (([] : List (Int × Int)).length : Int) - 1 := by decide
    simp (config := { maxSteps := 4000000 }) (disch := first | (intros; contradiction) | omega) only [go_sem, h0, a1, c1]
    done
  | cons p q =>
    obtain ⟨j1, j2, j3⟩ := trok_last i2
    have hql := trInv_length i1
    obtain ⟨x, how⟩ := p
    obtain ⟨g1, g2, g3, g4, g5⟩ := i1
    simp only at g1 g2 g3 g4 j2
    simp only [List.length_cons] at hql ih ⊢
    have e1 : ((q.length + 1 : Nat) : Int) - 1 = (q.length : Int) := by omega
    have e2 : (0 : Int) ≤ (q.length : Int) ∧ (q.length : Int) < ((q.length + 1 : Nat) : Int) := by omega
    have e3 : (0 : Int) ≤ (q.length : Int) ∧ (q.length : Int) ≤ ((q.length + 1 : Nat) : Int) := by omega
    have e0 : (0 : Int) ≤ (q.length : Int) := by omega
    have hneg : IntKind.wrap .i64 (0 - x) = 0 - x := wrap64 (by omega) (by omega)
    have hmax : (if x < 0 - x then 0 - x else x) = (x.natAbs : Int) := by split <;> omega
    have hm : (0 : Int) ≤ (x.natAbs : Int) ∧ (x.natAbs : Int) < ((n + 1 : Nat) : Int) := by omega
    have hp := vals_put (n := n) (i := x.natAbs) (valR ((x, how) :: q)) 0 (by omega)
    have hq := vals_room (n := n) (i := x.natAbs) (valR ((x, how) :: q)) (by omega)
    have hz : (fun k => if k = x.natAbs then 0 else valR ((x, how) :: q) k) = valR q := zeroV_valR (p := (x, how)) g4
    rw [hz] at hp
    have hz2 : zeroV (valR ((x, how) :: q)) x = valR q := hz
    by_cases hh : how = 1
    · have hb : backZ ((x, how) :: q) (valR ((x, how) :: q)) = some (valR q, q, -x) := by rw [backZ, if_pos hh, hz2]
      rw [hb]
      have hpu := putT_e n fl hx hn j1 (by omega) e (-x) 2 (by omega) steps (by omega)
      have hput := j1.put (-x) 2
      generalize cs.take (q.length * 2) ++ trC [(-x, 2)] = ds at hpu hput
      have d1 := hput.dc.r1
      have d2 := hput.dc.r2
      refine ⟨_, ?_, e + 1, ds, hput, rfl⟩
      simp only [trailO, srcO, List.length_cons] at hpu ⊢
      have hnx : (0 : Int) - x = -x := by omega
      rw [hnx] at hneg hmax
      have hh := eq_true hh
      simp (config := { maxSteps := 4000000 }) (disch := first | (intros; contradiction) | omega) only [go_sem, e0, e1, e2, e3, j2, j3, hneg, hnx, hmax, hm, hp, hq, hh, hpu, a1, a2, c1, c2, d1, d2, Nat.mul_one]
    · have hb : backZ ((x, how) :: q) (valR ((x, how) :: q)) = backZ q (valR q) := by rw [backZ, if_neg hh, hz2]
      rw [hb]
      have hw1 : IntKind.wrap .i64 ((q.length : Int) - 1) = (q.length : Int) - 1 := wrap64 (by omega) (by omega)
      rw [i3, hb] at ih
      simp (config := { maxSteps := 4000000 }) (disch := first | (intros; contradiction) | omega) only [go_sem, e0, e1, e2, e3, j2, j3, hneg, hmax, hm, hp, hq, hh, a1, a2, c1, c2, Nat.mul_one, hw1]
      exact ih q _ ⟨g5, j1, rfl⟩ (by omega) (by simp (config := { maxSteps := 4000000 }) (disch := first | (intros; contradiction) | omega) only [go_sem, a1, a2, c1, c2] <;> rfl)
end
end Go.Proofs.Ytchedkjlhjfadaa
