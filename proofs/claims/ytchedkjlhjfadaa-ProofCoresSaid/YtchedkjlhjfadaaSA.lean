/- solve's search: what is set, and taken back; solve's search: what is forced; solve's search: back, open, model; solve's search: its model, what is assumed, what comes next; solve's search: what is assumed, what comes next. Conditions: none. -/
import Derived.Test.YtchedkjlhjfadaaCB
import Derived.Test.YtchedkjlhjfadaaSat
set_option linter.unusedSimpArgs false
set_option linter.unusedVariables false
namespace Go.Proofs.Ytchedkjlhjfadaa
open Go Go.Ab
variable {ext : Sem'}
/-- A search's values, as numbers in a row. -/
def valsL (n : Nat) (val : Nat → Int) : List Int := (List.range (n + 1)).map val
theorem valsL_len (n : Nat) (val : Nat → Int) : (valsL n val).length = n + 1 := by simp [valsL]
theorem valsL_at {n i : Nat} (val : Nat → Int) (h : i ≤ n) : (valsL n val)[i]? = some (val i) := by
  unfold valsL
  rw [List.getElem?_map, List.getElem?_range (by omega)]
  rfl
theorem valsL_set {n i : Nat} (val : Nat → Int) (x : Int) (h : i ≤ n) : (valsL n val).set i x = valsL n (fun k => if k = i then x else val k) := by
  apply List.ext_getElem?
  intro k
  by_cases hk : k ≤ n
  · rw [valsL_at _ hk]
    by_cases hki : i = k
    · subst hki
      rw [List.getElem?_set_self (by rw [valsL_len]; omega), if_pos rfl]
    · rw [List.getElem?_set_ne hki, valsL_at _ hk, if_neg (fun e => hki e.symm)]
  · rw [List.getElem?_eq_none (by rw [List.length_set, valsL_len]; omega), List.getElem?_eq_none (by rw [valsL_len]; omega)]
def setR (p : Int × Int) : List Dt := [.int .i64 p.1, .int .i64 p.2]
/-- A trail's cells. -/
def trC (l : List (Int × Int)) : List AV := (l.map setR).flatten.map .d
theorem trC_len : ∀ l : List (Int × Int), (trC l).length = l.length * 2
  | [] => rfl
  | p :: l => by have := trC_len l; unfold trC at this ⊢; simp [setR] at this ⊢; omega
theorem trC_app (a b : List (Int × Int)) : trC (a ++ b) = trC a ++ trC b := by unfold trC; simp
theorem dcells_refs : ∀ l : List Dt, (List.map refs (l.map AV.d)).flatten = []
  | [] => rfl
  | x :: l => by simp only [List.map_cons, List.flatten_cons, refs, dcells_refs l]; rfl
theorem dcells_ren (f : Nat → Nat) : ∀ l : List Dt, List.map (ren f) (l.map AV.d) = l.map AV.d
  | [] => rfl
  | x :: l => by simp only [List.map_cons, ren, dcells_ren f l]
/-- Cells of data, behind a trail. -/
structure DC (cs : List AV) : Prop where
  r1 : (List.map refs cs).flatten = []
  r2 : ∀ f, List.map (ren f) cs = cs
theorem dc_of (l : List Dt) : DC (l.map AV.d) := ⟨dcells_refs l, fun f => dcells_ren f l⟩
theorem dc_app {a b : List AV} (h : DC a) (k : DC b) : DC (a ++ b) := ⟨by rw [List.map_append, List.flatten_append, h.r1, k.r1]; rfl, fun f => by rw [List.map_append, h.r2, k.r2]⟩
theorem dc_of' {cs : List AV} (h : DC cs) (k : Nat) : DC (cs.take k) := by
  constructor
  · have := h.r1
    rw [← List.take_append_drop k cs, List.map_append, List.flatten_append] at this
    exact (List.append_eq_nil_iff.1 this).1
  · intro f
    have := h.r2 f
    rw [List.map_take, this]
theorem dc_tr (l : List (Int × Int)) : DC (trC l) := dc_of _
/-- A search's memory. -/
def srcO (n : Nat) (fl : List (List Int)) (val : Nat → Int) (e k : Nat) (cs : List AV) (steps : Int) : List AObj :=
  [.cells [.d (.int .i64 n), .d (.sl (fl.map rowC)), .own 1 0 (n + 1) 1, .stk 2 e k, .d (.int .i64 steps)], .cells ((valsL n val).map avI), .stk e 2 cs]
theorem vals_at {n i : Nat} (val : Nat → Int) (h : i ≤ n) : ((valsL n val).map avI)[i]? = some (.d (.int .i64 (val i))) := by rw [List.getElem?_map, valsL_at val h]; rfl
theorem zeros_av (m : Nat) : (List.replicate m [AV.d (.int .i64 0)]).flatten = ((List.range m).map fun _ => (0 : Int)).map avI := by
  apply List.ext_getElem?
  intro i
  induction m generalizing i with
  | zero => rfl
  | succ k ih =>
    rw [List.replicate_succ, List.flatten_cons, List.range_succ_eq_map, List.map_cons, List.map_cons, List.map_map]
    cases i with
    | zero => rfl
    | succ i => simpa [Function.comp_def] using ih i
theorem new_e (hx : TX ext) (n : Nat) (hn : n ≤ 100000) (fl : List (List Int)) : G ext 51 [Fm.av ⟨n, fl⟩] [] = some (.ret (.ptr 0 0), srcO n fl (fun _ => 0) 0 0 [] 0) := by
  obtain ⟨m, hm⟩ : ∃ m, m = n + 1 := ⟨_, rfl⟩
  have e : ((n : Int) + 1).toNat = m := by omega
  have hroom : room m 8 := room_n8 (by omega)
  have hw : IntKind.wrap .i64 ((n : Int) + 1) = (n : Int) + 1 := wrap64 (by omega) (by omega)
  have h0 : (0 : Int) ≤ (n : Int) + 1 := by omega
  have hz : (List.replicate m [AV.d (.int .i64 0)]).flatten = (valsL n fun _ => 0).map avI := by rw [hm]; exact zeros_av _
  have a1 := av_refs (valsL n fun _ => 0)
  have a2 := fun f => av_ren f (valsL n fun _ => 0)
  rw [G_body hx.clear rfl Try.func51 rfl Try.results51 hv_51 rfl]
  simp only [Fm.av, srcO]
  rw [← hm]
  simp (config := { maxSteps := 4000000 }) (disch := first | (intros; contradiction) | omega) only [go_sem, hroom, hw, hz, h0, e, Int.le_refl, List.map_nil, a1, a2]
theorem vals_put {n i : Nat} (val : Nat → Int) (y : Int) (h : i ≤ n) : List.take i ((valsL n val).map avI) ++ [.d (.int .i64 y)] ++ List.drop (i + 1) ((valsL n val).map avI) = (valsL n (fun k => if k = i then y else val k)).map avI := by
  rw [set_av (by rw [valsL_len]; omega), valsL_set val y h]
theorem vals_room {n i : Nat} (val : Nat → Int) (h : i ≤ n) : i + 1 ≤ ((valsL n val).map avI).length := by rw [List.length_map, valsL_len]; omega
theorem upd_neg {val : Nat → Int} {x : Int} (h : x < 0) : (fun k => if k = (-x).toNat then -1 else val k) = upd val x := by
  funext k
  unfold upd
  rw [show (-x).toNat = x.natAbs by omega, if_pos h]
theorem upd_pos {val : Nat → Int} {x : Int} (h : ¬ x < 0) : (fun k => if k = x.toNat then 1 else val k) = upd val x := by
  funext k
  unfold upd
  rw [show x.toNat = x.natAbs by omega, if_neg h]
def truthV (val : Nat → Int) (x : Int) : Int := truthZ val x
section
variable (n : Nat) (fl : List (List Int)) (val : Nat → Int) (e k : Nat) (cs : List AV) (steps : Int)
theorem truth_e (hx : TX ext) (hn : n ≤ 100000) (h3 : lits3 val) (hc : DC cs) (x : Int) (h : x.natAbs ≤ n) : G ext 72 [.ptr 0 0, .d (.int .i64 x)] (srcO n fl val e k cs steps) = some (.ret (.d (.int .i64 (truthZ val x))), srcO n fl val e k cs steps) := by
  have h4 := h3 (-x).toNat
  have a1 := av_refs (valsL n val)
  have a2 := fun f => av_ren f (valsL n val)
  have c1 := hc.r1
  have c2 := hc.r2
  rw [G_body hx.clear rfl Try.func72 rfl Try.results72 hv_72 rfl]
  unfold truthZ srcO
  by_cases hl : x < 0
  · have hv := vals_at (n := n) (i := (-x).toNat) val (by omega)
    have e2 : (0 - x) = -x := by omega
    have hw : IntKind.wrap .i64 (0 - x) = -x := by rw [wrap64 (by omega) (by omega)]; omega
    have hb : 0 ≤ -x ∧ -x < ((n + 1 : Nat) : Int) := by omega
    rw [if_pos hl]
    have hw2 : IntKind.wrap .i64 (0 - val (-x).toNat) = - val (-x).toNat := by rw [wrap64 (by omega) (by omega)]; omega
    simp (config := { maxSteps := 4000000 }) (disch := first | (intros; contradiction) | omega) only [go_sem, hl, hw, hv, hb, Nat.mul_one, hw2, a1, a2, c1, c2]
  · have hv := vals_at (n := n) (i := x.toNat) val (by omega)
    have hb : 0 ≤ x ∧ x < ((n + 1 : Nat) : Int) := by omega
    rw [if_neg hl]
    simp (config := { maxSteps := 4000000 }) (disch := first | (intros; contradiction) | omega) only [go_sem, hl, hv, hb, Nat.mul_one, a1, a2, c1, c2]
theorem put_e (hx : TX ext) (hn : n ≤ 100000) (hc : DC cs) (x how : Int) (h : x.natAbs ≤ n) (hk : k ≤ 100000) (hkc : k * 2 ≤ cs.length) (hs : 0 ≤ steps ∧ steps ≤ 1000000000000000) :
    G ext 73 [.ptr 0 0, .d (.int .i64 x), .d (.int .i64 how)] (srcO n fl val e k cs steps) = some (.ret (.tuple []), srcO n fl (upd val x) (e + 1) (k + 1) (cs.take (k * 2) ++ trC [(x, how)]) (steps + 1)) := by
  have hroom : room (k + 1) 16 := by unfold room; simp; omega
  have hw : IntKind.wrap .i64 (steps + 1) = steps + 1 := wrap64 (by omega) (by omega)
  have a1 := fun l => av_refs l
  have a2 := fun l f => av_ren f l
  have hd := dc_app (dc_of' hc (k * 2)) (dc_tr [(x, how)])
  have c1 := hd.r1
  have c2 := hd.r2
  have ht : trC [(x, how)] = [.d (.int .i64 x), .d (.int .i64 how)] := rfl
  rw [ht] at c1 c2 ⊢
  rw [G_body hx.clear rfl Try.func73 rfl Try.results73 hv_73 rfl]
  unfold srcO
  by_cases hl : x < 0
  · have hw2 : IntKind.wrap .i64 (0 - x) = -x := by rw [wrap64 (by omega) (by omega)]; omega
    have hb : 0 ≤ -x ∧ -x < ((n + 1 : Nat) : Int) := by omega
    have hp := vals_put (n := n) (i := (-x).toNat) val (-1) (by omega)
    have hq := vals_room (n := n) (i := (-x).toNat) val (by omega)
    rw [upd_neg hl] at hp
    simp (config := { maxSteps := 4000000 }) (disch := first | (intros; contradiction) | omega) only [go_sem, hl, hw, hroom, hw2, hb, hkc, Nat.mul_one, hp, hq, a1, a2, c1, c2]
  · have hb : 0 ≤ x ∧ x < ((n + 1 : Nat) : Int) := by omega
    have hp := vals_put (n := n) (i := x.toNat) val 1 (by omega)
    have hq := vals_room (n := n) (i := x.toNat) val (by omega)
    rw [upd_pos hl] at hp
    simp (config := { maxSteps := 4000000 }) (disch := first | (intros; contradiction) | omega) only [go_sem, hl, hw, hroom, hb, hkc, Nat.mul_one, hp, hq, a1, a2, c1, c2]
end
end Go.Proofs.Ytchedkjlhjfadaa
namespace Go.Proofs.Ytchedkjlhjfadaa
open Go Go.Ab
variable {ext : Sem'}
section
variable (n : Nat) (fl : List (List Int))
set_option maxHeartbeats 1000000 in
theorem last_e (hx : TX ext) (hn : n ≤ 100000) (val : Nat → Int) (h3 : lits3 val) (e k : Nat) (cs : List AV) (hc : DC cs) (steps : Int) (c : List Int) (hcl : c.length ≤ 1000000) (hr : ∀ y, y ∈ c → y.natAbs ≤ n) :
    G ext 74 [.ptr 0 0, .d (.sl (c.map rowI))] (srcO n fl val e k cs steps) = some (.ret (.tuple [.d (.int .i64 (lastZ val c 0).1), .d (.bool (lastZ val c 0).2)]), srcO n fl val e k cs steps) := by
  have hll : (c.map rowI).length = c.length := List.length_map _
  have a1 := av_refs (valsL n val)
  have a2 := fun f => av_ren f (valsL n val)
  have c1 := hc.r1
  have c2 := hc.r2
  rw [G_body hx.clear rfl Try.func74 rfl Try.results74 hv_74 rfl]
  unfold srcO
  simp (config := { maxSteps := 4000000 }) (disch := first | (intros; contradiction) | omega) only [go_sem]
  generalize hL : loopA _ _ _ = L
  apply range_upd hL (by simp (config := { maxSteps := 4000000 }) (disch := first | (intros; contradiction) | omega) only [go_sem, a1, c1] <;> rfl) c rowI (α := Int) (fun rest k x => lastZ val c 0 = lastZ val rest x) (fun k x => [(4, .d (.int .i64 x)), (7, .any), (10, .d (.int .i64 k)), (16, .any)]) (fun _ _ => []) 0 (by simp (config := { maxSteps := 4000000 }) (disch := first | (intros; contradiction) | omega) only [go_sem] <;> rfl) rfl ?_ ?_
  · rintro y rest j x hi hlt hrow hget hk _ next ih
    clear hL
    have ht := truth_e n fl val e k cs steps hx hn h3 hc y (hr y (List.mem_of_getElem? hget))
    simp only [srcO] at ht
    simp only [rowI] at hrow
    rcases truthZ_range h3 y with q | q | q
    · rw [q] at ht
      have hi2 : lastZ val c 0 = lastZ val rest x := by rw [hi, lastZ, if_neg (by omega), if_neg (by omega)]
      simp (config := { maxSteps := 4000000 }) (disch := first | (intros; contradiction) | omega) only [go_sem, hlt, hrow, ht, a1, a2, c1, c2, wrap64]
      exact ih x _ hi2 (by simp (config := { maxSteps := 4000000 }) (disch := first | (intros; contradiction) | omega) only [go_sem, a1, c1] <;> rfl)
    · rw [q] at ht
      by_cases hx0 : x = 0
      · have hi2 : lastZ val c 0 = lastZ val rest y := by rw [hi, lastZ, if_neg (by omega), if_pos q, if_neg (by omega)]
        simp (config := { maxSteps := 4000000 }) (disch := first | (intros; contradiction) | omega) only [go_sem, hlt, hrow, ht, a1, a2, c1, c2, wrap64, hx0]
        exact ih y _ hi2 (by simp (config := { maxSteps := 4000000 }) (disch := first | (intros; contradiction) | omega) only [go_sem, a1, c1] <;> rfl)
      · by_cases hxy : x = y
        · have hi2 : lastZ val c 0 = lastZ val rest y := by rw [hi, lastZ, if_neg (by omega), if_pos q, if_neg (by omega)]
          simp (config := { maxSteps := 4000000 }) (disch := first | (intros; contradiction) | omega) only [go_sem, hlt, hrow, ht, a1, a2, c1, c2, wrap64, hx0, eq_true hxy]
          exact ih y _ hi2 (by simp (config := { maxSteps := 4000000 }) (disch := first | (intros; contradiction) | omega) only [go_sem, a1, c1] <;> rfl)
        · have hi2 : lastZ val c 0 = (0, true) := by rw [hi, lastZ, if_neg (by omega), if_pos q, if_pos ⟨hx0, hxy⟩]
          rw [hi2]
          simp (config := { maxSteps := 4000000 }) (disch := first | (intros; contradiction) | omega) only [go_sem, hlt, hrow, ht, a1, a2, c1, c2, wrap64, hx0, hxy]
    · rw [q] at ht
      have hi2 : lastZ val c 0 = (0, true) := by rw [hi, lastZ, if_pos q]
      rw [hi2]
      simp (config := { maxSteps := 4000000 }) (disch := first | (intros; contradiction) | omega) only [go_sem, hlt, hrow, ht, a1, a2, c1, c2, wrap64]
  · rintro j x hi hlt hk next
    clear hL
    have hi2 : lastZ val c 0 = (x, decide (x ≠ 0)) := hi
    rw [hi2]
    by_cases hx0 : x = 0
    · subst hx0
      rw [show decide ((0 : Int) ≠ 0) = false from by decide]
      simp (config := { maxSteps := 4000000 }) (disch := first | (intros; contradiction) | omega) only [go_sem, hlt, a1, c1]
    · simp (config := { maxSteps := 4000000 }) (disch := first | (intros; contradiction) | omega) only [go_sem, hlt, a1, c1, hx0, ne_eq]
/-- What is forced, one by one. -/
inductive UP (ls : List (List Int)) : List (Int × Int) → List (Int × Int) → Prop
  | refl (r) : UP ls r r
  | step {r r' : List (Int × Int)} {c : List Int} {x : Int} (hc : c ∈ ls) (hl : lastZ (valR r) c 0 = (x, true)) (h0 : x ≠ 0) (h : UP ls ((x, 0) :: r) r') : UP ls r r'
theorem UP.snoc {ls : List (List Int)} {r r' : List (Int × Int)} {c : List Int} {x : Int} (h : UP ls r r') (hc : c ∈ ls) (hl : lastZ (valR r') c 0 = (x, true)) (h0 : x ≠ 0) : UP ls r ((x, 0) :: r') := by
  induction h with
  | refl r => exact .step hc hl h0 (.refl _)
  | step hc' hl' h0' _ ih => exact .step hc' hl' h0' (ih hl)
/-- What forcing leaves. -/
structure Upd (n : Nat) (ls : List (List Int)) (r r' : List (Int × Int)) : Prop where
  inv : TrInv n r'
  ext : Go.Proofs.Ytchedkjlhjfadaa.ext n ls r' = Go.Proofs.Ytchedkjlhjfadaa.ext n ls r
  rest : Go.Proofs.Ytchedkjlhjfadaa.rest n ls r' = Go.Proofs.Ytchedkjlhjfadaa.rest n ls r
  mu : mu n r' ≤ mu n r
  len : r.length ≤ r'.length
theorem UP.ok {n : Nat} {ls : List (List Int)} (hr : RightL n ls) {r r' : List (Int × Int)} (h : UP ls r r') (ht : TrInv n r) : Upd n ls r r' := by
  induction h with
  | refl r => exact ⟨ht, rfl, rfl, Nat.le_refl _, Nat.le_refl _⟩
  | step hc hl h0 h ih =>
    rename_i r r' c x
    obtain ⟨h1, h2, h3⟩ := forced_lit hr hc hl h0
    obtain ⟨g1, g2, g3⟩ := hr c hc x h1
    obtain ⟨i1, i2⟩ := trInv_room ht h0 g2 g3 h2 0
    obtain ⟨j1, j2, j3, j4, j5⟩ := ih i1
    exact ⟨j1, j2.trans (ext_forced hr hc hl h0), j3.trans (by simp [Go.Proofs.Ytchedkjlhjfadaa.rest]), by have := mu_put i2 x 0; omega, by simp at j5; omega⟩
def trailO (n : Nat) (fl : List (List Int)) (r : List (Int × Int)) (e : Nat) (cs : List AV) (steps : Int) : List AObj := srcO n fl (valR r) e r.length cs steps
/-- A trail in memory. -/
structure TrOk (r : List (Int × Int)) (cs : List AV) : Prop where
  dc : DC cs
  pre : cs.take (r.length * 2) = trC r.reverse
theorem TrOk.le {r : List (Int × Int)} {cs : List AV} (h : TrOk r cs) : r.length * 2 ≤ cs.length := by
  have := congrArg List.length h.pre
  rw [trC_len, List.length_take, List.length_reverse] at this
  omega
theorem TrOk.put {r : List (Int × Int)} {cs : List AV} (h : TrOk r cs) (x how : Int) : TrOk ((x, how) :: r) (cs.take (r.length * 2) ++ trC [(x, how)]) := by
  refine ⟨dc_app (dc_of' h.dc _) (dc_tr _), ?_⟩
  have h1 : (cs.take (r.length * 2)).length = r.length * 2 := by rw [List.length_take]; have := h.le; omega
  rw [List.take_of_length_le (by rw [List.length_append, h1, trC_len, List.length_cons, List.length_cons, List.length_nil]; omega), h.pre, List.reverse_cons, trC_app]
theorem putT_e (hx : TX ext) (hn : n ≤ 100000) {r : List (Int × Int)} {cs : List AV} (h : TrOk r cs) (hrl : r.length ≤ n) (e : Nat) (x how : Int) (hxn : x.natAbs ≤ n) (steps : Int) (hs : 0 ≤ steps ∧ steps ≤ 1000000000000000) :
    G ext 73 [.ptr 0 0, .d (.int .i64 x), .d (.int .i64 how)] (trailO n fl r e cs steps) = some (.ret (.tuple []), trailO n fl ((x, how) :: r) (e + 1) (cs.take (r.length * 2) ++ trC [(x, how)]) (steps + 1)) := by
  have := put_e n fl (valR r) e r.length cs steps hx hn h.dc x how hxn (by omega) h.le hs
  exact this
theorem spread_e (hx : TX ext) (hn : n ≤ 100000) (hr : RightL n fl) (hfl : fl.length ≤ 1000000 ∧ ∀ c, c ∈ fl → c.length ≤ 1000000) (r : List (Int × Int)) (ht : TrInv n r) (e : Nat) (cs : List AV) (hc : TrOk r cs) (steps : Int) (hs : 0 ≤ steps ∧ steps ≤ 100000000000000) :
    ∃ r' e' cs' b, G ext 53 [.ptr 0 0] (trailO n fl r e cs steps) = some (.ret (.d (.bool b)), trailO n fl r' e' cs' (steps + (r'.length - r.length))) ∧ UP fl r r' ∧ TrOk r' cs' ∧
      (b = true → ∀ c, c ∈ fl → lastZ (valR r') c 0 = (0, true)) ∧ (b = false → ∃ c x, c ∈ fl ∧ lastZ (valR r') c 0 = (x, false)) := by
  have hll : (fl.map rowC).length = fl.length := List.length_map _
  have a1 := fun l => av_refs l
  have a2 := fun l f => av_ren f l
  have c1 := hc.dc.r1
  rw [G_body hx.clear rfl Try.func53 rfl Try.results53 hv_53 rfl]
  unfold trailO srcO
  simp (config := { maxSteps := 4000000 }) (disch := first | (intros; contradiction) | omega) only [go_sem]
  generalize hL : loopA _ _ _ = L
  apply loop_upd hL (by simp (config := { maxSteps := 4000000 }) (disch := first | (intros; contradiction) | omega) only [go_sem, a1, c1] <;> rfl) (α := List (Int × Int) × Nat × List AV) (fun s => UP fl r s.1 ∧ TrOk s.1 s.2.2) (fun s => n - s.1.length)
    (fun s => [(5, .any), (6, .any), (7, .any), (14, .any), (15, .any), (16, .any)])
    (fun s => [(0, .cells [.d (.int .i64 n), .d (.sl (fl.map rowC)), .own 1 0 (n + 1) 1, .stk 2 s.2.1 s.1.length, .d (.int .i64 (steps + (s.1.length - r.length)))]), (1, .cells ((valsL n (valR s.1)).map avI)), (2, .stk s.2.1 2 s.2.2)]) (r, e, cs) (by simp only [Int.sub_self, Int.add_zero]; simp (config := { maxSteps := 4000000 }) (disch := first | (intros; contradiction) | omega) only [go_sem] <;> rfl) ⟨.refl _, hc⟩ ?_
  rintro ⟨q, f, ds⟩ ⟨i1, i2⟩ next ih
  simp only at i1 i2 ih ⊢
  clear hL
  have hup := i1.ok hr ht
  have hql := trInv_length hup.inv
  have d1 := i2.dc.r1
  have d2 := i2.dc.r2
  simp (config := { maxSteps := 4000000 }) (disch := first | (intros; contradiction) | omega) only [go_sem, a1, d1]
  generalize hL : loopA _ _ _ = L
  apply range_upd hL (by simp (config := { maxSteps := 4000000 }) (disch := first | (intros; contradiction) | omega) only [go_sem, a1, d1] <;> rfl) fl rowC (α := Unit) (fun rest k _ => ∀ c, c ∈ fl.take k → lastZ (valR q) c 0 = (0, true)) (fun k _ => [(5, .any), (6, .any), (7, .any), (16, .d (.int .i64 k))]) (fun _ _ => []) () (by simp (config := { maxSteps := 4000000 }) (disch := first | (intros; contradiction) | omega) only [go_sem] <;> rfl) (by simp) ?_ ?_
  · rintro c rest k _ hi hlt hrow hget hk _ next2 ih2
    clear hL
    have hmem := List.mem_of_getElem? hget
    have hcr := hr c hmem
    have hla := last_e n fl hx hn (valR q) (lits3_valR q) f q.length ds i2.dc (steps + (q.length - r.length)) c (hfl.2 c hmem) (fun y hy => by have := hcr y hy; omega)
    simp only [srcO] at hla
    simp only [rowC] at hrow
    cases hlz : lastZ (valR q) c 0 with
    | mk x b =>
      rw [hlz] at hla
      cases b with
      | false =>
        refine ⟨q, f, ds, false, ?_, i1, i2, by simp, fun _ => ⟨c, x, hmem, hlz⟩⟩
        simp (config := { maxSteps := 4000000 }) (disch := first | (intros; contradiction) | omega) only [go_sem, hlt, hrow, hla, a1, a2, d1, d2]
      | true =>
        by_cases hx0 : x = 0
        · have hx0' := eq_true hx0
          simp (config := { maxSteps := 4000000 }) (disch := first | (intros; contradiction) | omega) only [go_sem, hlt, hrow, hla, a1, a2, d1, d2, hx0', wrap64, not_true_eq_false]
          refine ih2 () _ ?_ (by simp (config := { maxSteps := 4000000 }) (disch := first | (intros; contradiction) | omega) only [go_sem, a1, d1] <;> rfl)
          intro d hd
          rw [List.take_add_one, hget] at hd
          rcases List.mem_append.1 hd with hd | hd
          · exact hi d hd
          · simp at hd; subst hd; rw [hlz, hx0]
        · have hfo := forced_lit hr hmem hlz hx0
          have hxr := hcr x hfo.1
          have hrm := trInv_room hup.inv hx0 hxr.2.1 hxr.2.2 hfo.2.1 0
          have hpu := putT_e n fl hx hn i2 hql f x 0 (by omega) (steps + (q.length - r.length)) (by have := hup.len; omega)
          have hst : steps + ((q.length : Int) - r.length) + 1 = steps + (((q.length + 1 : Nat) : Int) - r.length) := by omega
          rw [hst] at hpu
          simp only [trailO, srcO, List.length_cons] at hpu
          have hput := i2.put x 0
          generalize ds.take (q.length * 2) ++ trC [(x, 0)] = ds' at hpu hput
          have p1 := hput.dc.r1
          have p2 := hput.dc.r2
          simp (config := { maxSteps := 4000000 }) (disch := first | (intros; contradiction) | omega) only [go_sem, hlt, hrow, hla, a1, a2, d1, d2, p1, p2, hx0, hpu]
          refine ih ((x, 0) :: q, f + 1, ds') _ ⟨i1.snoc hmem hlz hx0, hput⟩ (by simp only [List.length_cons]; omega) (by simp only [List.length_cons]; simp (config := { maxSteps := 4000000 }) (disch := first | (intros; contradiction) | omega) only [go_sem, a1, a2, p1, p2] <;> rfl)
  · rintro k _ hi hlt hk next2
    clear hL
    refine ⟨q, f, ds, true, ?_, i1, i2, fun _ c hcm => hi c (by rw [hk, List.take_length]; exact hcm), by simp⟩
    simp (config := { maxSteps := 4000000 }) (disch := first | (intros; contradiction) | omega) only [go_sem, hlt, a1, d1]
end
end Go.Proofs.Ytchedkjlhjfadaa
namespace Go.Proofs.Ytchedkjlhjfadaa
open Go Go.Ab
variable {ext : Sem'}
/-- slices.Index of numbers that are to be changed. -/
theorem indexo_e (hx : TX ext) (l : List Int) (v : Int) (a : Int) (hl : l.length ≤ 1000000) : G ext 88 [.own 0 1 l.length 1, .d (.int .i64 v)] [.cells ((a :: l).map avI)] = some (.ret (.d (.int .i64 (indexZ l v))), [.cells ((a :: l).map avI)]) := by
  have hll : (l.map avI).length = l.length := List.length_map _
  have a1 := av_refs (a :: l)
  have a2 := fun f => av_ren f (a :: l)
  generalize hA : (a :: l).map avI = A at a1 a2 ⊢
  have hat : ∀ (k : Nat) (x : Int), l[k]? = some x → A[1 + k]? = some (.d (.int .i64 x)) := by
    intro k x h
    rw [← hA, List.getElem?_map, show 1 + k = k + 1 by omega, List.getElem?_cons_succ, h]
    rfl
  rw [G_body hx.clear rfl Try.func88 rfl Try.results88 hv_88 rfl]
  simp (config := { maxSteps := 4000000 }) (disch := first | (intros; contradiction) | omega) only [go_sem]
  generalize hL : loopA _ _ _ = L
  apply range_upd hL (by simp (config := { maxSteps := 4000000 }) (disch := first | (intros; contradiction) | omega) only [go_sem, a1] <;> rfl) l rowI (α := Unit) (fun rest k _ => indexZ l v = if indexZ rest v < 0 then -1 else indexZ rest v + k) (fun k _ => [(5, .any), (8, .d (.int .i64 k))]) (fun _ _ => []) () (by simp (config := { maxSteps := 4000000 }) (disch := first | (intros; contradiction) | omega) only [go_sem] <;> rfl) (by have := indexZ_lo l v; split <;> omega) ?_ ?_
  · intro x rest k _ hi hlt hr hxx hk _ next ih
    clear hL
    have hr := hat k x hxx
    have hlt : (k : Int) < (l.length : Int) := by omega
    by_cases hv : v = x
    · have e : indexZ l v = k := by rw [hi, indexZ, if_pos hv]; simp
      rw [e]
      have hv2 := eq_true hv
      have hv3 := eq_true hv.symm
      simp (config := { maxSteps := 4000000 }) (disch := first | (intros; contradiction) | omega) only [go_sem, hlt, hr, hv2, hv3, Nat.mul_one, a1, a2]
    · have hv3 : ¬ x = v := fun e => hv e.symm
      simp (config := { maxSteps := 4000000 }) (disch := first | (intros; contradiction) | omega) only [go_sem, hlt, hr, hv, hv3, Nat.mul_one, a1, a2, wrap64]
      refine ih () _ ?_ (by simp (config := { maxSteps := 4000000 }) (disch := first | (intros; contradiction) | omega) only [go_sem, a1] <;> rfl)
      have := indexZ_lo rest v
      rw [hi, indexZ, if_neg hv]
      split <;> split <;> (try split) <;> omega
  · intro k _ hi hlt hk next
    clear hL
    have hlt : ¬ (k : Int) < (l.length : Int) := by omega
    have e : indexZ l v = -1 := by rw [hi]; rfl
    rw [e]
    simp (config := { maxSteps := 4000000 }) (disch := first | (intros; contradiction) | omega) only [go_sem, hlt, a1]
section
variable (n : Nat) (fl : List (List Int))
theorem valsL_cons (val : Nat → Int) : valsL n val = val 0 :: (List.range n).map fun i => val (i + 1) := by
  unfold valsL
  rw [List.range_succ_eq_map, List.map_cons, List.map_map]
  rfl
theorem open_e (hx : TX ext) (hn : n ≤ 100000) (val : Nat → Int) (e k : Nat) (cs : List AV) (hc : DC cs) (steps : Int) : G ext 96 [.ptr 0 0] (srcO n fl val e k cs steps) = some (.ret (.d (.int .i64 (openZ val n))), srcO n fl val e k cs steps) := by
  have hi := indexo_e hx ((List.range n).map fun i => val (i + 1)) 0 (val 0) (by simp; omega)
  rw [← valsL_cons] at hi
  have hlo := indexZ_lo ((List.range n).map fun i => val (i + 1)) 0
  have hhi := indexZ_hi ((List.range n).map fun i => val (i + 1)) 0
  have hll : ((List.range n).map fun i => val (i + 1)).length = n := by simp
  rw [hll] at hi hhi
  have a1 := av_refs (valsL n val)
  have a2 := fun f => av_ren f (valsL n val)
  have c1 := hc.r1
  have c2 := hc.r2
  have hb : (0 : Int) ≤ 1 ∧ (1 : Int) ≤ ((n + 1 : Nat) : Int) := by omega
  have e1 : n + 1 - 1 = n := by omega
  rw [G_body hx.clear rfl Try.func96 rfl Try.results96 hv_96 rfl]
  unfold srcO openZ
  generalize indexZ ((List.range n).map fun i => val (i + 1)) 0 = z at hi hlo hhi ⊢
  simp (config := { maxSteps := 4000000 }) (disch := first | (intros; contradiction) | omega) only [go_sem, hi, a1, a2, c1, c2, hb, e1, wrap64]
theorem trok_last {p : Int × Int} {q : List (Int × Int)} {cs : List AV} (h : TrOk (p :: q) cs) : TrOk q cs ∧ (cs.drop (q.length * 2)).take 2 = [.d (.int .i64 p.1), .d (.int .i64 p.2)] ∧ q.length * 2 + 2 ≤ cs.length := by
  have hle := h.le
  have hp := h.pre
  simp only [List.length_cons] at hle hp
  rw [List.reverse_cons, trC_app, show (q.length + 1) * 2 = q.length * 2 + 2 by omega, List.take_add] at hp
  have hl : (cs.take (q.length * 2)).length = (trC q.reverse).length := by rw [trC_len, List.length_take, List.length_reverse]; omega
  obtain ⟨h1, h2⟩ := List.append_inj hp hl
  exact ⟨⟨h.dc, h1⟩, h2, by omega⟩
/-- What going back leaves. -/
def BackR (n : Nat) (fl : List (List Int)) (steps : Int) (out : Out × List AObj) : Option ((Nat → Int) × List (Int × Int) × Int) → Prop
  | none => ∃ e' cs', DC cs' ∧ out = (.ret (.d (.bool false)), trailO n fl [] e' cs' steps)
  | some (_, r', y) => ∃ e' cs', TrOk ((y, 2) :: r') cs' ∧ out = (.ret (.d (.bool true)), trailO n fl ((y, 2) :: r') e' cs' (steps + 1))
theorem back_e (hx : TX ext) (hn : n ≤ 100000) (r : List (Int × Int)) (ht : TrInv n r) (e : Nat) (cs : List AV) (hc : TrOk r cs) (steps : Int) (hs : 0 ≤ steps ∧ steps ≤ 100000000000000) :
    ∃ out, G ext 82 [.ptr 0 0] (trailO n fl r e cs steps) = some out ∧ BackR n fl steps out (backZ r (valR r)) := by
  have a1 := fun l => av_refs l
  have a2 := fun l f => av_ren f l
  have c1 := hc.dc.r1
  have c2 := hc.dc.r2
  have hrl := trInv_length ht
  have hw0 : IntKind.wrap .i64 ((r.length : Int) - 1) = (r.length : Int) - 1 := wrap64 (by omega) (by omega)
  rw [G_body hx.clear rfl Try.func82 rfl Try.results82 hv_82 rfl]
  unfold trailO srcO
  simp (config := { maxSteps := 4000000 }) (disch := first | (intros; contradiction) | omega) only [go_sem, hw0]
  generalize hL : loopA _ _ _ = L
  apply loop_upd hL (by simp (config := { maxSteps := 4000000 }) (disch := first | (intros; contradiction) | omega) only [go_sem, a1, c1] <;> rfl) (α := List (Int × Int)) (fun q => TrInv n q ∧ TrOk q cs ∧ backZ r (valR r) = backZ q (valR q)) (fun q => q.length)
    (fun q => [(3, .d (.int .i64 ((q.length : Int) - 1))), (4, .any)])
    (fun q => [(0, .cells [.d (.int .i64 n), .d (.sl (fl.map rowC)), .own 1 0 (n + 1) 1, .stk 2 e q.length, .d (.int .i64 steps)]), (1, .cells ((valsL n (valR q)).map avI))]) r (by simp (config := { maxSteps := 4000000 }) (disch := first | (intros; contradiction) | omega) only [go_sem] <;> rfl) ⟨ht, hc, rfl⟩ ?_
  rintro q ⟨i1, i2, i3⟩ next ih
  clear hL
  rw [i3]
  cases q with
  | nil =>
    refine ⟨_, ?_, e, cs, hc.dc, rfl⟩
    unfold trailO srcO
    have h0 : ¬ (0 : Int) ≤ (([] : List (Int × Int)).length : Int) - 1 := by decide
    simp (config := { maxSteps := 4000000 }) (disch := first | (intros; contradiction) | omega) only [go_sem, h0, a1, c1]
    done
  | cons p q =>
    obtain ⟨j1, j2, j3⟩ := trok_last i2
    have hql := trInv_length i1
    obtain ⟨x, how⟩ := p
    obtain ⟨g1, g2, g3, g4, g5⟩ := i1
    simp only at g1 g2 g3 g4 j2
    simp only [List.length_cons] at hql ih ⊢
    have e1 : ((q.length + 1 : Nat) : Int) - 1 = (q.length : Int) := by omega
    have e2 : (0 : Int) ≤ (q.length : Int) ∧ (q.length : Int) < ((q.length + 1 : Nat) : Int) := by omega
    have e3 : (0 : Int) ≤ (q.length : Int) ∧ (q.length : Int) ≤ ((q.length + 1 : Nat) : Int) := by omega
    have e0 : (0 : Int) ≤ (q.length : Int) := by omega
    have hneg : IntKind.wrap .i64 (0 - x) = 0 - x := wrap64 (by omega) (by omega)
    have hmax : (if x < 0 - x then 0 - x else x) = (x.natAbs : Int) := by split <;> omega
    have hm : (0 : Int) ≤ (x.natAbs : Int) ∧ (x.natAbs : Int) < ((n + 1 : Nat) : Int) := by omega
    have hp := vals_put (n := n) (i := x.natAbs) (valR ((x, how) :: q)) 0 (by omega)
    have hq := vals_room (n := n) (i := x.natAbs) (valR ((x, how) :: q)) (by omega)
    have hz : (fun k => if k = x.natAbs then 0 else valR ((x, how) :: q) k) = valR q := zeroV_valR (p := (x, how)) g4
    rw [hz] at hp
    have hz2 : zeroV (valR ((x, how) :: q)) x = valR q := hz
    by_cases hh : how = 1
    · have hb : backZ ((x, how) :: q) (valR ((x, how) :: q)) = some (valR q, q, -x) := by rw [backZ, if_pos hh, hz2]
      rw [hb]
      have hpu := putT_e n fl hx hn j1 (by omega) e (-x) 2 (by omega) steps (by omega)
      have hput := j1.put (-x) 2
      generalize cs.take (q.length * 2) ++ trC [(-x, 2)] = ds at hpu hput
      have d1 := hput.dc.r1
      have d2 := hput.dc.r2
      refine ⟨_, ?_, e + 1, ds, hput, rfl⟩
      simp only [trailO, srcO, List.length_cons] at hpu ⊢
      have hnx : (0 : Int) - x = -x := by omega
      rw [hnx] at hneg hmax
      have hh := eq_true hh
      simp (config := { maxSteps := 4000000 }) (disch := first | (intros; contradiction) | omega) only [go_sem, e0, e1, e2, e3, j2, j3, hneg, hnx, hmax, hm, hp, hq, hh, hpu, a1, a2, c1, c2, d1, d2, Nat.mul_one]
    · have hb : backZ ((x, how) :: q) (valR ((x, how) :: q)) = backZ q (valR q) := by rw [backZ, if_neg hh, hz2]
      rw [hb]
      have hw1 : IntKind.wrap .i64 ((q.length : Int) - 1) = (q.length : Int) - 1 := wrap64 (by omega) (by omega)
      rw [i3, hb] at ih
      simp (config := { maxSteps := 4000000 }) (disch := first | (intros; contradiction) | omega) only [go_sem, e0, e1, e2, e3, j2, j3, hneg, hmax, hm, hp, hq, hh, a1, a2, c1, c2, Nat.mul_one, hw1]
      exact ih q _ ⟨g5, j1, rfl⟩ (by omega) (by simp (config := { maxSteps := 4000000 }) (disch := first | (intros; contradiction) | omega) only [go_sem, a1, a2, c1, c2] <;> rfl)
end
end Go.Proofs.Ytchedkjlhjfadaa
namespace Go.Proofs.Ytchedkjlhjfadaa
open Go Go.Ab
variable {ext : Sem'}
def avB (b : Bool) : AV := .d (.bool b)
theorem avB_refs : ∀ l : List Bool, (List.map refs (List.map avB l)).flatten = []
  | [] => rfl
  | x :: l => by simp only [List.map_cons, List.flatten_cons, avB_refs l]; rfl
theorem avB_ren (f : Nat → Nat) : ∀ l : List Bool, List.map (ren f) (List.map avB l) = List.map avB l
  | [] => rfl
  | x :: l => by simp only [List.map_cons, avB_ren f l]; rfl
theorem dataB (l : List Bool) : dataAs (l.map avB) = some (l.map Dt.bool) := by
  induction l with
  | nil => rfl
  | cons x l ih => simp only [List.map_cons, dataAs, avB, dataA, ih]
theorem chunkB (l : List Bool) : chunk 1 l.length (l.map Dt.bool) = l.map rowB := by
  induction l with
  | nil => rfl
  | cons x l ih => simp only [List.length_cons, List.map_cons, chunk, List.take_succ_cons, List.take_zero, List.drop_succ_cons, List.drop_zero, ih]; rfl
theorem setB {l : List Bool} {a : Nat} {y : Bool} (h : a < l.length) : List.take a (List.map avB l) ++ [.d (.bool y)] ++ List.drop (a + 1) (List.map avB l) = (l.set a y).map avB := by
  rw [List.set_eq_take_append_cons_drop, if_pos h, List.map_append, List.map_cons, List.map_take, List.map_drop, List.append_assoc]
  rfl
theorem falsesB (m : Nat) : (List.replicate m [AV.d (.bool false)]).flatten = (List.replicate m false).map avB := by
  induction m with
  | zero => rfl
  | succ k ih => rw [List.replicate_succ, List.flatten_cons, ih]; rfl
section
variable (n : Nat) (fl : List (List Int))
set_option maxHeartbeats 1000000 in
theorem model_e (hx : TX ext) (hn : n ≤ 100000) (val : Nat → Int) (h3 : lits3 val) (e k : Nat) (cs : List AV) (hc : DC cs) (steps : Int) : G ext 79 [.ptr 0 0] (srcO n fl val e k cs steps) = some (.ret (.d (.sl ((modelL val n).map rowB))), srcO n fl val e k cs steps) := by
  have a1 := fun l => av_refs l
  have a2 := fun l f => av_ren f l
  have b1 := fun l => avB_refs l
  have b2 := fun l f => avB_ren f l
  have c1 := hc.r1
  have c2 := hc.r2
  obtain ⟨m, hm⟩ : ∃ m, m = n := ⟨_, rfl⟩
  have hroom : room m 1 := by unfold room; simp; omega
  have h0 : (0 : Int) ≤ (n : Int) := by omega
  have hz := falsesB m
  have e0 : ((n : Int)).toNat = m := by omega
  rw [G_body hx.clear rfl Try.func79 rfl Try.results79 hv_79 rfl]
  unfold srcO
  rw [hm] at hz hroom e0
  simp (config := { maxSteps := 4000000 }) (disch := first | (intros; contradiction) | omega) only [go_sem, hroom, h0, Int.le_refl, e0, hz, a1, c1, b1]
  generalize hL : loopA _ _ _ = L
  apply loop_upd hL (by simp (config := { maxSteps := 4000000 }) (disch := first | (intros; contradiction) | omega) only [go_sem, a1, c1, b1] <;> rfl) (α := Nat × List Bool) (fun s => s.1 ≤ n ∧ s.2.length = n ∧ ∀ i, i < s.1 → s.2[i]? = some (decide (0 < val (i + 1)))) (fun s => n - s.1)
    (fun s => [(4, .any), (13, .d (.int .i64 s.1))]) (fun s => [(4, .cells (s.2.map avB))]) (0, List.replicate n false) (by simp (config := { maxSteps := 4000000 }) (disch := first | (intros; contradiction) | omega) only [go_sem] <;> rfl) ⟨by simp, by simp, by simp⟩ ?_
  rintro ⟨j, bl⟩ ⟨i1, i2, i3⟩ next ih
  simp only at i1 i2 i3 ih ⊢
  clear hL
  by_cases hj : j < n
  · have hlt : (j : Int) < (n : Int) := by omega
    have hj0 : (0 : Int) ≤ (j : Int) := by omega
    have hb : (0 : Int) ≤ (j : Int) + 1 ∧ (j : Int) + 1 < ((n + 1 : Nat) : Int) := by omega
    have hb2 : (0 : Int) ≤ (j : Int) ∧ (j : Int) < (n : Int) := by omega
    have hw : IntKind.wrap .i64 ((j : Int) + 1) = (j : Int) + 1 := wrap64 (by omega) (by omega)
    have hj1 : ((j : Int) + 1).toNat = j + 1 := by omega
    have hv := vals_at (n := n) (i := j + 1) val (by omega)
    have hs := setB (l := bl) (a := j) (y := decide (0 < val (j + 1))) (by omega)
    have hr : j + 1 ≤ (bl.map avB).length := by rw [List.length_map]; omega
    simp (config := { maxSteps := 4000000 }) (disch := first | (intros; contradiction) | omega) only [go_sem, hlt, hj0, hb, hb2, hw, hj1, hv, hs, hr, Nat.mul_one, a1, a2, b1, b2, c1, c2]
    refine ih (j + 1, bl.set j (decide (0 < val (j + 1)))) _ ⟨hj, by simpa using i2, fun i hi => ?_⟩ (by simp only; omega) (by simp (config := { maxSteps := 4000000 }) (disch := first | (intros; contradiction) | omega) only [go_sem, a1, a2, b1, b2, c1, c2] <;> rfl)
    by_cases hij : j = i
    · subst hij; rw [List.getElem?_set_self (by omega)]
    · rw [List.getElem?_set_ne hij]; exact i3 i (by omega)
  · have hlt : ¬ (j : Int) < (n : Int) := by omega
    have hbl : bl = modelL val n := by
      apply List.ext_getElem?
      intro i
      by_cases hi : i < n
      · rw [i3 i (by omega)]
        unfold modelL
        rw [List.getElem?_map, List.getElem?_range hi]
        rfl
      · rw [List.getElem?_eq_none (by omega), List.getElem?_eq_none (by rw [modelL_length]; omega)]
    subst hbl
    have hll : (List.map avB (modelL val n)).length = n := by rw [List.length_map, modelL_length]
    have hd := dataB (modelL val n)
    have hch := chunkB (modelL val n)
    rw [modelL_length] at hch
    have htk : List.take n (List.map avB (modelL val n)) = List.map avB (modelL val n) := List.take_of_length_le (by omega)
    simp (config := { maxSteps := 4000000 }) (disch := first | (intros; contradiction) | omega) only [go_sem, hlt, hll, hd, hch, htk, Nat.mul_one, Nat.le_refl, a1, a2, b1, b2, c1, c2]
    done
end
end Go.Proofs.Ytchedkjlhjfadaa
namespace Go.Proofs.Ytchedkjlhjfadaa
open Go Go.Ab
variable {ext : Sem'}
/-- What assuming leaves; none: it cannot be. -/
def asm (n : Nat) : List (Int × Int) → List Int → Option (List (Int × Int))
  | r, [] => some r
  | r, x :: l => if x = 0 ∨ (n : Int) < x ∨ x < 0 - (n : Int) ∨ truthZ (valR r) x < 0 then none else if truthZ (valR r) x = 0 then asm n ((x, 0) :: r) l else asm n r l
theorem asm_none {n : Nat} {r : List (Int × Int)} {x : Int} {l : List Int} (h : x = 0 ∨ (n : Int) < x ∨ x < 0 - (n : Int) ∨ truthZ (valR r) x < 0) : asm n r (x :: l) = none := by rw [asm, if_pos h]
section
variable (n : Nat) (fl : List (List Int))
set_option maxHeartbeats 2000000 in
theorem assume_e (hx : TX ext) (hn : n ≤ 100000) (r : List (Int × Int)) (ht : TrInv n r) (e : Nat) (cs : List AV) (hc : TrOk r cs) (steps : Int) (hs : 0 ≤ steps ∧ steps ≤ 100000000000000) (l : List Int) (hl : l.length ≤ 1000000) :
    ∃ r' e' cs', G ext 52 [.ptr 0 0, .d (.sl (l.map rowI))] (trailO n fl r e cs steps) = some (.ret (.d (.bool (asm n r l).isSome)), trailO n fl r' e' cs' (steps + (r'.length - r.length))) ∧
      TrInv n r' ∧ TrOk r' cs' ∧ r.length ≤ r'.length ∧ ∀ q, asm n r l = some q → r' = q := by
  have hll : (l.map rowI).length = l.length := List.length_map _
  have a1 := fun l => av_refs l
  have a2 := fun l f => av_ren f l
  have c1 := hc.dc.r1
  have hw0 : IntKind.wrap .i64 (0 - (n : Int)) = 0 - (n : Int) := wrap64 (by omega) (by omega)
  rw [G_body hx.clear rfl Try.func52 rfl Try.results52 hv_52 rfl]
  unfold trailO srcO
  simp (config := { maxSteps := 4000000 }) (disch := first | (intros; contradiction) | omega) only [go_sem]
  generalize hL : loopA _ _ _ = L
  apply range_upd hL (by simp (config := { maxSteps := 4000000 }) (disch := first | (intros; contradiction) | omega) only [go_sem, a1, c1] <;> rfl) l rowI (α := List (Int × Int) × Nat × List AV) (fun rest k s => TrInv n s.1 ∧ TrOk s.1 s.2.2 ∧ r.length ≤ s.1.length ∧ asm n r l = asm n s.1 rest)
    (fun k s => [(6, .any), (9, .d (.int .i64 k))])
    (fun k s => [(0, .cells [.d (.int .i64 n), .d (.sl (fl.map rowC)), .own 1 0 (n + 1) 1, .stk 2 s.2.1 s.1.length, .d (.int .i64 (steps + (s.1.length - r.length)))]), (1, .cells ((valsL n (valR s.1)).map avI)), (2, .stk s.2.1 2 s.2.2)]) (r, e, cs) (by simp only [Int.sub_self, Int.add_zero]; simp (config := { maxSteps := 4000000 }) (disch := first | (intros; contradiction) | omega) only [go_sem] <;> rfl) ⟨ht, hc, Nat.le_refl _, rfl⟩ ?_ ?_
  · rintro x rest k ⟨q, f, ds⟩ ⟨i1, i2, i3, i4⟩ hlt hrow hget hk _ next ih
    simp only at i1 i2 i3 i4 ih ⊢
    clear hL
    have hql := trInv_length i1
    have d1 := i2.dc.r1
    have d2 := i2.dc.r2
    simp only [rowI] at hrow
    by_cases x0 : x = 0
    · have hnone := asm_none (n := n) (r := q) (l := rest) (.inl x0)
      rw [i4, hnone]
      refine ⟨q, f, ds, ?_, i1, i2, i3, fun _ h => by cases h⟩
      have x0 := eq_true x0
      simp only [Option.isSome_none]
      simp (config := { maxSteps := 4000000 }) (disch := first | (intros; contradiction) | omega) only [go_sem, hlt, hrow, x0, a1, d1]
    · by_cases x1 : (n : Int) < x
      · have hnone := asm_none (n := n) (r := q) (l := rest) (.inr (.inl x1))
        rw [i4, hnone]
        refine ⟨q, f, ds, ?_, i1, i2, i3, fun _ h => by cases h⟩
        simp only [Option.isSome_none]
        simp (config := { maxSteps := 4000000 }) (disch := first | (intros; contradiction) | omega) only [go_sem, hlt, hrow, x0, x1, a1, d1]
      · by_cases x2 : x < 0 - (n : Int)
        · have hnone := asm_none (n := n) (r := q) (l := rest) (.inr (.inr (.inl x2)))
          rw [i4, hnone]
          refine ⟨q, f, ds, ?_, i1, i2, i3, fun _ h => by cases h⟩
          simp only [Option.isSome_none]
          simp (config := { maxSteps := 4000000 }) (disch := first | (intros; contradiction) | omega) only [go_sem, hlt, hrow, x0, x1, hw0, x2, a1, d1]
        · have hte := truth_e n fl (valR q) f q.length ds (steps + (q.length - r.length)) hx hn (lits3_valR q) i2.dc x (by omega)
          simp only [srcO] at hte
          rcases truthZ_range (lits3_valR q) x with tv | tv | tv
          · rw [tv] at hte
            have hnone := asm_none (n := n) (r := q) (l := rest) (.inr (.inr (.inr (show truthZ (valR q) x < 0 by omega))))
            rw [i4, hnone]
            refine ⟨q, f, ds, ?_, i1, i2, i3, fun _ h => by cases h⟩
            simp only [Option.isSome_none]
            simp (config := { maxSteps := 4000000 }) (disch := first | (intros; contradiction) | omega) only [go_sem, hlt, hrow, x0, x1, hw0, x2, hte, a1, a2, d1, d2]
          · rw [tv] at hte
            have hstep : asm n q (x :: rest) = asm n ((x, 0) :: q) rest := by rw [asm, if_neg (by omega), if_pos tv]
            obtain ⟨r1, r2⟩ := trInv_room i1 x0 (by omega) (by omega) tv 0
            have hpu := putT_e n fl hx hn i2 hql f x 0 (by omega) (steps + (q.length - r.length)) (by omega)
            have hst : steps + ((q.length : Int) - r.length) + 1 = steps + (((q.length + 1 : Nat) : Int) - r.length) := by omega
            rw [hst] at hpu
            simp only [trailO, srcO, List.length_cons] at hpu
            have hput := i2.put x 0
            generalize ds.take (q.length * 2) ++ trC [(x, 0)] = ds' at hpu hput
            have p1 := hput.dc.r1
            have p2 := hput.dc.r2
            simp (config := { maxSteps := 4000000 }) (disch := first | (intros; contradiction) | omega) only [go_sem, hlt, hrow, x0, x1, hw0, x2, hte, hpu, a1, a2, d1, d2, p1, p2, wrap64]
            exact ih ((x, 0) :: q, f + 1, ds') _ ⟨r1, hput, by simp only [List.length_cons]; omega, i4.trans hstep⟩ (by simp only [List.length_cons]; simp (config := { maxSteps := 4000000 }) (disch := first | (intros; contradiction) | omega) only [go_sem, a1, a2, p1, p2] <;> rfl)
          · rw [tv] at hte
            have hstep : asm n q (x :: rest) = asm n q rest := by rw [asm, if_neg (by omega), if_neg (by omega)]
            simp (config := { maxSteps := 4000000 }) (disch := first | (intros; contradiction) | omega) only [go_sem, hlt, hrow, x0, x1, hw0, x2, hte, a1, a2, d1, d2, wrap64]
            exact ih (q, f, ds) _ ⟨i1, i2, i3, i4.trans hstep⟩ (by simp (config := { maxSteps := 4000000 }) (disch := first | (intros; contradiction) | omega) only [go_sem, a1, a2, d1, d2] <;> rfl)
  · rintro k ⟨q, f, ds⟩ ⟨i1, i2, i3, i4⟩ hlt hk next
    simp only at i1 i2 i3 i4 ⊢
    clear hL
    have d1 := i2.dc.r1
    have i5 : asm n r l = some q := i4
    rw [i5]
    refine ⟨q, f, ds, ?_, i1, i2, i3, fun _ h => by cases h; rfl⟩
    simp only [Option.isSome_some]
    simp (config := { maxSteps := 4000000 }) (disch := first | (intros; contradiction) | omega) only [go_sem, hlt, a1, d1]
theorem UP.sum {n : Nat} {ls : List (List Int)} (hr : RightL n ls) {r r' : List (Int × Int)} (h : UP ls r r') (ht : TrInv n r) : mu n r' + (r'.length - r.length) ≤ mu n r := by
  induction h with
  | refl r => simp
  | step hc hl h0 h ih =>
    rename_i r r' c x
    obtain ⟨h1, h2, h3⟩ := forced_lit hr hc hl h0
    obtain ⟨g1, g2, g3⟩ := hr c hc x h1
    obtain ⟨i1, i2⟩ := trInv_room ht h0 g2 g3 h2 0
    have := ih i1
    have := mu_put i2 x 0
    have := (h.ok hr i1).len
    simp at *
    omega
theorem valR_some {r : List (Int × Int)} : ∀ {i : Nat}, valR r i ≠ 0 → i ∈ r.map fun p => p.1.natAbs := by
  induction r with
  | nil => intro i h; exact absurd rfl h
  | cons p r ih =>
    intro i h
    simp only [valR, upd] at h
    simp only [List.map_cons, List.mem_cons]
    by_cases e : i = p.1.natAbs
    · exact .inl e
    · rw [if_neg e] at h; exact .inr (ih h)
theorem trInv_full {n : Nat} {r : List (Int × Int)} (ht : TrInv n r) (h : ∀ i, i < n → valR r (i + 1) ≠ 0) : n ≤ r.length := by
  have hnd : ((List.range n).map (· + 1)).Nodup := List.Pairwise.map _ (fun a b hab => by omega) (List.nodup_range (n := n))
  have := nodup_le (l := (List.range n).map (· + 1)) (l' := r.map fun p => p.1.natAbs) hnd (fun i hi => by
    obtain ⟨k, hk, rfl⟩ := List.mem_map.1 hi
    exact valR_some (h k (by simpa using hk)))
  simpa using this
/-- What comes next. -/
def NextR (n : Nat) (fl : List (List Int)) (r : List (Int × Int)) (b : Bool) (r' : List (Int × Int)) : Prop :=
  match b with
  | true => TrInv n r' ∧ Go.Proofs.Ytchedkjlhjfadaa.ext n fl r' = [modelL (valR r') n] ∧ Go.Proofs.Ytchedkjlhjfadaa.ext n fl r ++ rest n fl r = modelL (valR r') n :: rest n fl r'
  | false => Go.Proofs.Ytchedkjlhjfadaa.ext n fl r ++ rest n fl r = []
set_option maxHeartbeats 2000000 in
theorem next_e (hx : TX ext) (hn : n ≤ 100000) (hr : RightL n fl) (hfl : fl.length ≤ 1000000 ∧ ∀ c, c ∈ fl → c.length ≤ 1000000) (r : List (Int × Int)) (ht : TrInv n r) (e : Nat) (cs : List AV) (hc : TrOk r cs) (steps : Int) (hs : 0 ≤ steps ∧ steps + mu n r ≤ 10000000000000) :
    ∃ b r' e' cs' s', G ext 78 [.ptr 0 0] (trailO n fl r e cs steps) = some (.ret (.d (.bool b)), trailO n fl r' e' cs' s') ∧ NextR n fl r b r' ∧ TrOk r' cs' ∧ steps ≤ s' ∧ s' ≤ steps + mu n r ∧ (b = true → r.length < n → steps < s') := by
  have a1 := fun l => av_refs l
  have a2 := fun l f => av_ren f l
  have c1 := hc.dc.r1
  rw [G_body hx.clear rfl Try.func78 rfl Try.results78 hv_78 rfl]
  unfold trailO srcO
  simp (config := { maxSteps := 4000000 }) (disch := first | (intros; contradiction) | omega) only [go_sem]
  generalize hL : loopA _ _ _ = L
  apply loop_upd hL (by simp (config := { maxSteps := 4000000 }) (disch := first | (intros; contradiction) | omega) only [go_sem, a1, c1] <;> rfl) (α := List (Int × Int) × Nat × List AV × Int) (fun s => TrInv n s.1 ∧ TrOk s.1 s.2.2.1 ∧ Go.Proofs.Ytchedkjlhjfadaa.ext n fl s.1 ++ rest n fl s.1 = Go.Proofs.Ytchedkjlhjfadaa.ext n fl r ++ rest n fl r ∧ steps ≤ s.2.2.2 ∧ s.2.2.2 + mu n s.1 ≤ steps + mu n r ∧ (s.1 = r ∨ steps < s.2.2.2)) (fun s => mu n s.1)
    (fun s => [(3, .any)])
    (fun s => [(0, .cells [.d (.int .i64 n), .d (.sl (fl.map rowC)), .own 1 0 (n + 1) 1, .stk 2 s.2.1 s.1.length, .d (.int .i64 s.2.2.2)]), (1, .cells ((valsL n (valR s.1)).map avI)), (2, .stk s.2.1 2 s.2.2.1)]) (r, e, cs, steps) (by simp (config := { maxSteps := 4000000 }) (disch := first | (intros; contradiction) | omega) only [go_sem] <;> rfl) ⟨ht, hc, rfl, Int.le_refl _, Int.le_refl _, .inl rfl⟩ ?_
  rintro ⟨p, f, ds, st⟩ ⟨i1, i2, i3, i4, i5, i6⟩ next ih
  simp only at i1 i2 i3 i4 i5 i6 ih ⊢
  clear hL
  have hpl := trInv_length i1
  have d1 := i2.dc.r1
  have d2 := i2.dc.r2
  obtain ⟨q, f2, ds2, b, hsp, hup, htq, hb1, hb2⟩ := spread_e n fl hx hn hr hfl p i1 f ds i2 st (by omega)
  have hok := hup.ok hr i1
  have hsum := hup.sum hr i1
  have hlen := hok.len
  have hql := trInv_length hok.inv
  have q1 := htq.dc.r1
  have q2 := htq.dc.r2
  have hsame : Go.Proofs.Ytchedkjlhjfadaa.ext n fl q ++ rest n fl q = Go.Proofs.Ytchedkjlhjfadaa.ext n fl r ++ rest n fl r := by rw [hok.ext, hok.rest, i3]
  generalize hs2 : st + ((q.length : Int) - p.length) = s2 at hsp
  have hs3 : s2 + mu n q ≤ steps + mu n r := by omega
  have hs4 : steps ≤ s2 := by omega
  have hs5 : q = r ∨ steps < s2 := by
    rcases i6 with h | h
    · subst h
      cases hup with
      | refl => exact .inl rfl
      | step hc' hl' h0' h' =>
        right
        have := (h'.ok hr (by
          obtain ⟨k1, k2, k3⟩ := forced_lit hr hc' hl' h0'
          obtain ⟨g1, g2, g3⟩ := hr _ hc' _ k1
          exact (trInv_room i1 h0' g2 g3 k2 0).1)).len
        simp only [List.length_cons] at this
        omega
    · right; omega
  simp only [trailO, srcO] at hsp
  cases b with
  | false =>
    obtain ⟨c, x, hcm, hlz⟩ := hb2 rfl
    have hex := ext_conflict hr hcm hlz
    obtain ⟨out, hba, hbr⟩ := back_e n fl hx hn q hok.inv f2 ds2 htq s2 (by omega)
    simp only [trailO, srcO] at hba
    rcases back_spec fl hok.inv with ⟨g1, g2⟩ | ⟨r', y, g1, g2, g3, g4, g5, g6, g7⟩
    · rw [g1] at hbr
      obtain ⟨e', cs', hdc, rfl⟩ := hbr
      have p1 := hdc.r1
      have p2 := hdc.r2
      simp only [trailO, srcO] at hba
      refine ⟨false, [], e', cs', s2, ?_, ?_, ⟨hdc, rfl⟩, hs4, by omega, by simp⟩
      · simp (config := { maxSteps := 4000000 }) (disch := first | (intros; contradiction) | omega) only [go_sem, hsp, hba, a1, a2, d1, d2, q1, q2, p1, p2]
      · unfold NextR
        rw [← hsame, hex, g2]; rfl
    · rw [g1] at hbr
      obtain ⟨e', cs', hto, rfl⟩ := hbr
      have p1 := hto.dc.r1
      have p2 := hto.dc.r2
      simp only [trailO, srcO] at hba
      have hmu : mu n ((y, 2) :: r') < mu n q := by have := cost_pos (n - q.length); unfold mu at g7 ⊢; omega
      simp (config := { maxSteps := 4000000 }) (disch := first | (intros; contradiction) | omega) only [go_sem, hsp, hba, a1, a2, d1, d2, q1, q2, p1, p2]
      refine ih ((y, 2) :: r', e', cs', s2 + 1) _ ⟨g5, hto, ?_, by simp only; omega, by simp only; omega, .inr (by simp only; omega)⟩ (by simp only; omega) (by simp (config := { maxSteps := 4000000 }) (disch := first | (intros; contradiction) | omega) only [go_sem, a1, a2, p1, p2] <;> rfl)
      rw [← hsame, hex, g6]
      simp [Go.Proofs.Ytchedkjlhjfadaa.rest]
  | true =>
    have hall := hb1 rfl
    have hop := open_e n fl hx hn (valR q) f2 q.length ds2 htq.dc s2
    simp only [srcO] at hop
    by_cases hz : openZ (valR q) n = 0
    · have hset := openZ_none hz
      have hfull := ext_full hr hok.inv hset hall
      rw [hz] at hop
      refine ⟨true, q, f2, ds2, s2, ?_, ⟨hok.inv, hfull, ?_⟩, htq, hs4, by omega, fun _ hrl => ?_⟩
      · simp (config := { maxSteps := 4000000 }) (disch := first | (intros; contradiction) | omega) only [go_sem, hsp, hop, a1, a2, d1, d2, q1, q2]
      · rw [← hsame, hfull]; rfl
      · rcases hs5 with h | h
        · subst h
          exfalso
          have := trInv_full hok.inv hset
          omega
        · exact h
    · have h0 := openZ_lo (valR q) n
      have hi := openZ_hi (valR q) n
      obtain ⟨v, hv⟩ : ∃ v : Nat, openZ (valR q) n = (v : Int) := ⟨(openZ (valR q) n).toNat, by omega⟩
      obtain ⟨v1, v2, v3⟩ := openZ_some hv (by omega)
      rw [hv] at hop hz
      have hneg : IntKind.wrap .i64 (0 - (v : Int)) = -(v : Int) := by rw [wrap64 (by omega) (by omega)]; omega
      have htr : truthZ (valR q) (-(v : Int)) = 0 := by rw [truthZ_val, Int.natAbs_neg, Int.natAbs_natCast, v2]; split <;> rfl
      obtain ⟨r1, r2⟩ := trInv_room hok.inv (x := -(v : Int)) (by omega) (by omega) (by omega) htr 1
      have hch := ext_choose (ls := fl) (r := q) (v := v) (by omega) v1 v3
      have hpu := putT_e n fl hx hn htq hql f2 (-(v : Int)) 1 (by omega) s2 (by omega)
      simp only [trailO, srcO, List.length_cons] at hpu
      have hput := htq.put (-(v : Int)) 1
      generalize ds2.take (q.length * 2) ++ trC [(-(v : Int), 1)] = ds' at hpu hput
      have p1 := hput.dc.r1
      have p2 := hput.dc.r2
      have hmu := mu_put r2 (-(v : Int)) 1
      simp (config := { maxSteps := 4000000 }) (disch := first | (intros; contradiction) | omega) only [go_sem, hsp, hop, hz, hneg, hpu, a1, a2, d1, d2, q1, q2, p1, p2]
      refine ih ((-(v : Int), 1) :: q, f2 + 1, ds', s2 + 1) _ ⟨r1, hput, ?_, by simp only; omega, by simp only; omega, .inr (by simp only; omega)⟩ (by simp only; omega) (by simp only [List.length_cons]; simp (config := { maxSteps := 4000000 }) (disch := first | (intros; contradiction) | omega) only [go_sem, a1, a2, p1, p2] <;> rfl)
      rw [← hsame, hch]
      simp [Go.Proofs.Ytchedkjlhjfadaa.rest]
end
end Go.Proofs.Ytchedkjlhjfadaa
