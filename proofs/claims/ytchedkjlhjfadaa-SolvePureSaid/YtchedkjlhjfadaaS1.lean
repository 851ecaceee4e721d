/- solve's search: what is set, and taken back. Conditions: none. -/
import Derived.Test.YtchedkjlhjfadaaC9
import Derived.Test.YtchedkjlhjfadaaSat
set_option linter.unusedSimpArgs false
set_option linter.unusedVariables false
namespace Go.Proofs.Ytchedkjlhjfadaa
open Go Go.Ab
variable {ext : Sem'}
/-- A search's values, as numbers in a row. -/
def valsL (n : Nat) (val : Nat → Int) : List Int := (List.range (n + 1)).map val
theorem valsL_len (n : Nat) (val : Nat → Int) : (valsL n val).length = n + 1 := by simp [valsL]
theorem valsL_at {n i : Nat} (val : Nat → Int) (h : i ≤ n) : (valsL n val)[i]? = some (val i) := by
  unfold valsL
  rw [List.getElem?_map, List.getElem?_range (by omega)]
  rfl
theorem valsL_set {n i : Nat} (val : Nat → Int) (x : Int) (h : i ≤ n) : (valsL n val).set i x = valsL n (fun k => if k = i then x else val k) := by
  apply List.ext_getElem?
  intro k
  by_cases hk : k ≤ n
  · rw [valsL_at _ hk]
    by_cases hki : i = k
    · subst hki
      rw [List.getElem?_set_self (by rw [valsL_len]; omega), if_pos rfl]
    · rw [List.getElem?_set_ne hki, valsL_at _ hk, if_neg (fun e => hki e.symm)]
  · rw [List.getElem?_eq_none (by rw [List.length_set, valsL_len]; omega), List.getElem?_eq_none (by rw [valsL_len]; omega)]
def setR (p : Int × Int) : List Dt := [.int .i64 p.1, .int .i64 p.2]
/-- A trail's cells. -/
def trC (l : List (Int × Int)) : List AV := (l.map setR).flatten.map .d
theorem trC_len : ∀ l : List (Int × Int), (trC l).length = l.length * 2
  | [] => rfl
  | p :: l => by have := trC_len l; unfold trC at this ⊢; simp [setR] at this ⊢; omega
theorem trC_app (a b : List (Int × Int)) : trC (a ++ b) = trC a ++ trC b := by unfold trC; simp
theorem dcells_refs : ∀ l : List Dt, (List.map refs (l.map AV.d)).flatten = []
  | [] => rfl
  | x :: l => by simp only [List.map_cons, List.flatten_cons, refs, dcells_refs l]; rfl
theorem dcells_ren (f : Nat → Nat) : ∀ l : List Dt, List.map (ren f) (l.map AV.d) = l.map AV.d
  | [] => rfl
  | x :: l => by simp only [List.map_cons, ren, dcells_ren f l]
/-- Cells of data, behind a trail. -/
structure DC (cs : List AV) : Prop where
  r1 : (List.map refs cs).flatten = []
  r2 : ∀ f, List.map (ren f) cs = cs
theorem dc_of (l : List Dt) : DC (l.map AV.d) := ⟨dcells_refs l, fun f => dcells_ren f l⟩
theorem dc_app {a b : List AV} (h : DC a) (k : DC b) : DC (a ++ b) := ⟨by rw [List.map_append, List.flatten_append, h.r1, k.r1]; rfl, fun f => by rw [List.map_append, h.r2, k.r2]⟩
theorem dc_of' {cs : List AV} (h : DC cs) (k : Nat) : DC (cs.take k) := by
  constructor
  · have := h.r1
    rw [← List.take_append_drop k cs, List.map_append, List.flatten_append] at this
    exact (List.append_eq_nil_iff.1 this).1
  · intro f
    have := h.r2 f
    rw [List.map_take, this]
theorem dc_tr (l : List (Int × Int)) : DC (trC l) := dc_of _
/-- A search's memory. -/
def srcO (n : Nat) (fl : List (List Int)) (val : Nat → Int) (e k : Nat) (cs : List AV) (steps : Int) : List AObj :=
  [.cells [.d (.int .i64 n), .d (.sl (fl.map rowC)), .own 1 0 (n + 1) 1, .stk 2 e k, .d (.int .i64 steps)], .cells ((valsL n val).map avI), .stk e 2 cs]
theorem vals_at {n i : Nat} (val : Nat → Int) (h : i ≤ n) : ((valsL n val).map avI)[i]? = some (.d (.int .i64 (val i))) := by rw [List.getElem?_map, valsL_at val h]; rfl
theorem zeros_av (m : Nat) : (List.replicate m [AV.d (.int .i64 0)]).flatten = ((List.range m).map fun _ => (0 : Int)).map avI := by
  apply List.ext_getElem?
  intro i
  induction m generalizing i with
  | zero => rfl
  | succ k ih =>
    rw [List.replicate_succ, List.flatten_cons, List.range_succ_eq_map, List.map_cons, List.map_cons, List.map_map]
    cases i with
    | zero => rfl
    | succ i => simpa [Function.comp_def] using ih i
theorem new_e (hx : TX ext) (n : Nat) (hn : n ≤ 100000) (fl : List (List Int)) : G ext 51 [Fm.av ⟨n, fl⟩] [] = some (.ret (.ptr 0 0), srcO n fl (fun _ => 0) 0 0 [] 0) := by
  obtain ⟨m, hm⟩ : ∃ m, m = n + 1 := ⟨_, rfl⟩
  have e : ((n : Int) + 1).toNat = m := by omega
  have hroom : room m 8 := room_n8 (by omega)
  have hw : IntKind.wrap .i64 ((n : Int) + 1) = (n : Int) + 1 := wrap64 (by omega) (by omega)
  have h0 : (0 : Int) ≤ (n : Int) + 1 := by omega
  have hz : (List.replicate m [AV.d (.int .i64 0)]).flatten = (valsL n fun _ => 0).map avI := by rw [hm]; exact zeros_av _
  have a1 := av_refs (valsL n fun _ => 0)
  have a2 := fun f => av_ren f (valsL n fun _ => 0)
  rw [G_body hx.clear rfl Try.func51 rfl Try.results51 hv_51 rfl]
  simp only [Fm.av, srcO]
  rw [← hm]
  simp (config := { maxSteps := 4000000 }) (disch := first | (intros; contradiction) | omega) only [go_sem, hroom, hw, hz, h0, e, Int.le_refl, List.map_nil, a1, a2]
theorem vals_put {n i : Nat} (val : Nat → Int) (y : Int) (h : i ≤ n) : List.take i ((valsL n val).map avI) ++ [.d (.int .i64 y)] ++ List.drop (i + 1) ((valsL n val).map avI) = (valsL n (fun k => if k = i then y else val k)).map avI := by
  rw [set_av (by rw [valsL_len]; omega), valsL_set val y h]
theorem vals_room {n i : Nat} (val : Nat → Int) (h : i ≤ n) : i + 1 ≤ ((valsL n val).map avI).length := by rw [List.length_map, valsL_len]; omega
theorem upd_neg {val : Nat → Int} {x : Int} (h : x < 0) : (fun k => if k = (-x).toNat then -1 else val k) = upd val x := by
  funext k
  unfold upd
  rw [show (-x).toNat = x.natAbs by omega, if_pos h]
theorem upd_pos {val : Nat → Int} {x : Int} (h : ¬ x < 0) : (fun k => if k = x.toNat then 1 else val k) = upd val x := by
  funext k
  unfold upd
  rw [show x.toNat = x.natAbs by omega, if_neg h]
def truthV (val : Nat → Int) (x : Int) : Int := truthZ val x
section
variable (n : Nat) (fl : List (List Int)) (val : Nat → Int) (e k : Nat) (cs : List AV) (steps : Int)
theorem truth_e (hx : TX ext) (hn : n ≤ 100000) (h3 : lits3 val) (hc : DC cs) (x : Int) (h : x.natAbs ≤ n) : G ext 72 [.ptr 0 0, .d (.int .i64 x)] (srcO n fl val e k cs steps) = some (.ret (.d (.int .i64 (truthZ val x))), srcO n fl val e k cs steps) := by
  have h4 := h3 (-x).toNat
  have a1 := av_refs (valsL n val)
  have a2 := fun f => av_ren f (valsL n val)
  have c1 := hc.r1
  have c2 := hc.r2
  rw [G_body hx.clear rfl Try.func72 rfl Try.results72 hv_72 rfl]
  unfold truthZ srcO
  by_cases hl : x < 0
  · have hv := vals_at (n := n) (i := (-x).toNat) val (by omega)
    have e2 : (0 - x) = -x := by omega
    have hw : IntKind.wrap .i64 (0 - x) = -x := by rw [wrap64 (by omega) (by omega)]; omega
    have hb : 0 ≤ -x ∧ -x < ((n + 1 : Nat) : Int) := by omega
    rw [if_pos hl]
    have hw2 : IntKind.wrap .i64 (0 - val (-x).toNat) = - val (-x).toNat := by rw [wrap64 (by omega) (by omega)]; omega
    simp (config := { maxSteps := 4000000 }) (disch := first | (intros; contradiction) | omega) only [go_sem, hl, hw, hv, hb, Nat.mul_one, hw2, a1, a2, c1, c2]
  · have hv := vals_at (n := n) (i := x.toNat) val (by omega)
    have hb : 0 ≤ x ∧ x < ((n + 1 : Nat) : Int) := by omega
    rw [if_neg hl]
    simp (config := { maxSteps := 4000000 }) (disch := first | (intros; contradiction) | omega) only [go_sem, hl, hv, hb, Nat.mul_one, a1, a2, c1, c2]
theorem put_e (hx : TX ext) (hn : n ≤ 100000) (hc : DC cs) (x how : Int) (h : x.natAbs ≤ n) (hk : k ≤ 100000) (hkc : k * 2 ≤ cs.length) (hs : 0 ≤ steps ∧ steps ≤ 1000000000000000) :
    G ext 73 [.ptr 0 0, .d (.int .i64 x), .d (.int .i64 how)] (srcO n fl val e k cs steps) = some (.ret (.tuple []), srcO n fl (upd val x) (e + 1) (k + 1) (cs.take (k * 2) ++ trC [(x, how)]) (steps + 1)) := by
  have hroom : room (k + 1) 16 := by unfold room; simp; omega
  have hw : IntKind.wrap .i64 (steps + 1) = steps + 1 := wrap64 (by omega) (by omega)
  have a1 := fun l => av_refs l
  have a2 := fun l f => av_ren f l
  have hd := dc_app (dc_of' hc (k * 2)) (dc_tr [(x, how)])
  have c1 := hd.r1
  have c2 := hd.r2
  have ht : trC [(x, how)] = [.d (.int .i64 x), .d (.int .i64 how)] := rfl
  rw [ht] at c1 c2 ⊢
  rw [G_body hx.clear rfl Try.func73 rfl Try.results73 hv_73 rfl]
  unfold srcO
  by_cases hl : x < 0
  · have hw2 : IntKind.wrap .i64 (0 - x) = -x := by rw [wrap64 (by omega) (by omega)]; omega
    have hb : 0 ≤ -x ∧ -x < ((n + 1 : Nat) : Int) := by omega
    have hp := vals_put (n := n) (i := (-x).toNat) val (-1) (by omega)
    have hq := vals_room (n := n) (i := (-x).toNat) val (by omega)
    rw [upd_neg hl] at hp
    simp (config := { maxSteps := 4000000 }) (disch := first | (intros; contradiction) | omega) only [go_sem, hl, hw, hroom, hw2, hb, hkc, Nat.mul_one, hp, hq, a1, a2, c1, c2]
  · have hb : 0 ≤ x ∧ x < ((n + 1 : Nat) : Int) := by omega
    have hp := vals_put (n := n) (i := x.toNat) val 1 (by omega)
    have hq := vals_room (n := n) (i := x.toNat) val (by omega)
    rw [upd_pos hl] at hp
    simp (config := { maxSteps := 4000000 }) (disch := first | (intros; contradiction) | omega) only [go_sem, hl, hw, hroom, hb, hkc, Nat.mul_one, hp, hq, a1, a2, c1, c2]
end
end Go.Proofs.Ytchedkjlhjfadaa
