/- Law 16: the grower of a proof: what is set, and two clauses resolved; Law 16: what the grower is forced to set, and why; Law 16: false clauses resolve to false ones. Conditions: none. -/
import Derived.Test.YtchedkjlhjfadaaQA
import Derived.Test.YtchedkjlhjfadaaS21
set_option linter.unusedSimpArgs false
set_option linter.unusedVariables false
namespace Go.Proofs.Ytchedkjlhjfadaa
open Go Go.Ab
variable {ext : Sem'}
/-- A grower's memory. -/
def grO (N : Nat) (fl out : List (List Int)) (st : List Ps) (val : Nat → Int) : List AObj :=
  [.cells [.d (.int .i64 fl.length), .grow 1 out.length ((fl ++ out).map rowC), .grow 2 st.length (st.map rowS), .own 3 0 (N + 1) 1], .grow out.length 1, .grow st.length 3, .cells ((valsL N val).map avI)]
section
variable (N : Nat) (fl out : List (List Int)) (st : List Ps) (val : Nat → Int)
theorem gtruth_e (hx : TX ext) (hn : N ≤ 100000) (h3 : lits3 val) (x : Int) (h : x.natAbs ≤ N) : G ext 98 [.ptr 0 0, .d (.int .i64 x)] (grO N fl out st val) = some (.ret (.d (.int .i64 (truthZ val x))), grO N fl out st val) := by
  have h4 := h3 (-x).toNat
  have a1 := av_refs (valsL N val)
  have a2 := fun f => av_ren f (valsL N val)
  rw [G_body hx.clear rfl Try.func98 rfl Try.results98 hv_98 rfl]
  unfold truthZ grO
  by_cases hl : x < 0
  · have hv := vals_at (n := N) (i := (-x).toNat) val (by omega)
    have e2 : (0 - x) = -x := by omega
    have hw : IntKind.wrap .i64 (0 - x) = -x := by rw [wrap64 (by omega) (by omega)]; omega
    have hb : 0 ≤ -x ∧ -x < ((N + 1 : Nat) : Int) := by omega
    rw [if_pos hl]
    have hw2 : IntKind.wrap .i64 (0 - val (-x).toNat) = - val (-x).toNat := by rw [wrap64 (by omega) (by omega)]; omega
    simp (config := { maxSteps := 4000000 }) (disch := first | (intros; contradiction) | omega) only [go_sem, hl, hw, hv, hb, Nat.mul_one, hw2, a1, a2]
  · have hv := vals_at (n := N) (i := x.toNat) val (by omega)
    have hb : 0 ≤ x ∧ x < ((N + 1 : Nat) : Int) := by omega
    rw [if_neg hl]
    simp (config := { maxSteps := 4000000 }) (disch := first | (intros; contradiction) | omega) only [go_sem, hl, hv, hb, Nat.mul_one, a1, a2]
theorem gset1_e (hx : TX ext) (hn : N ≤ 100000) (x : Int) (h : x.natAbs ≤ N) : G ext 87 [.ptr 0 0, .d (.int .i64 x), .d (.int .i64 1)] (grO N fl out st val) = some (.ret (.tuple []), grO N fl out st (upd val x)) := by
  have a1 := fun l => av_refs l
  have a2 := fun l f => av_ren f l
  rw [G_body hx.clear rfl Try.func87 rfl Try.results87 hv_87 rfl]
  unfold grO
  by_cases hl : x < 0
  · have hw2 : IntKind.wrap .i64 (0 - x) = -x := by rw [wrap64 (by omega) (by omega)]; omega
    have hw3 : IntKind.wrap .i64 (-1) = -1 := by decide
    have hb : 0 ≤ -x ∧ -x < ((N + 1 : Nat) : Int) := by omega
    have hp := vals_put (n := N) (i := (-x).toNat) val (-1) (by omega)
    have hq := vals_room (n := N) (i := (-x).toNat) val (by omega)
    rw [upd_neg hl] at hp
    simp (config := { maxSteps := 4000000 }) (disch := first | (intros; contradiction) | omega) only [go_sem, hl, hw2, hw3, hb, Nat.mul_one, hp, hq, a1, a2]
  · have hb : 0 ≤ x ∧ x < ((N + 1 : Nat) : Int) := by omega
    have hp := vals_put (n := N) (i := x.toNat) val 1 (by omega)
    have hq := vals_room (n := N) (i := x.toNat) val (by omega)
    rw [upd_pos hl] at hp
    simp (config := { maxSteps := 4000000 }) (disch := first | (intros; contradiction) | omega) only [go_sem, hl, hb, Nat.mul_one, hp, hq, a1, a2]
theorem zero_neg {val : Nat → Int} {x : Int} (h : x < 0) : (fun k => if k = (-x).toNat then 0 else val k) = zeroV val x := by
  funext k
  unfold zeroV
  rw [show (-x).toNat = x.natAbs by omega]
theorem zero_pos {val : Nat → Int} {x : Int} (h : ¬ x < 0) : (fun k => if k = x.toNat then 0 else val k) = zeroV val x := by
  funext k
  unfold zeroV
  rw [show x.toNat = x.natAbs by omega]
theorem gset0_e (hx : TX ext) (hn : N ≤ 100000) (x : Int) (h : x.natAbs ≤ N) : G ext 87 [.ptr 0 0, .d (.int .i64 x), .d (.int .i64 0)] (grO N fl out st val) = some (.ret (.tuple []), grO N fl out st (zeroV val x)) := by
  have a1 := fun l => av_refs l
  have a2 := fun l f => av_ren f l
  rw [G_body hx.clear rfl Try.func87 rfl Try.results87 hv_87 rfl]
  unfold grO
  by_cases hl : x < 0
  · have hw2 : IntKind.wrap .i64 (0 - x) = -x := by rw [wrap64 (by omega) (by omega)]; omega
    have hw3 : IntKind.wrap .i64 0 = 0 := by decide
    have hb : 0 ≤ -x ∧ -x < ((N + 1 : Nat) : Int) := by omega
    have hp := vals_put (n := N) (i := (-x).toNat) val 0 (by omega)
    have hq := vals_room (n := N) (i := (-x).toNat) val (by omega)
    rw [zero_neg hl] at hp
    simp (config := { maxSteps := 4000000 }) (disch := first | (intros; contradiction) | omega) only [go_sem, hl, hw2, hw3, hb, Nat.mul_one, hp, hq, a1, a2]
  · have hb : 0 ≤ x ∧ x < ((N + 1 : Nat) : Int) := by omega
    have hp := vals_put (n := N) (i := x.toNat) val 0 (by omega)
    have hq := vals_room (n := N) (i := x.toNat) val (by omega)
    rw [zero_pos hl] at hp
    simp (config := { maxSteps := 4000000 }) (disch := first | (intros; contradiction) | omega) only [go_sem, hl, hb, Nat.mul_one, hp, hq, a1, a2]
set_option maxHeartbeats 1000000 in
theorem single_e (hx : TX ext) (hn : N ≤ 100000) (h3 : lits3 val) (c : List Int) (hcl : c.length ≤ 1000000) (hr : ∀ y, y ∈ c → y.natAbs ≤ N) :
    G ext 86 [.ptr 0 0, .d (.sl (c.map rowI))] (grO N fl out st val) = some (.ret (.tuple [.d (.int .i64 (lastZ val c 0).1), .d (.bool (!(lastZ val c 0).2))]), grO N fl out st val) := by
  have hll : (c.map rowI).length = c.length := List.length_map _
  have a1 := av_refs (valsL N val)
  have a2 := fun f => av_ren f (valsL N val)
  rw [G_body hx.clear rfl Try.func86 rfl Try.results86 hv_86 rfl]
  unfold grO
  simp (config := { maxSteps := 4000000 }) (disch := first | (intros; contradiction) | omega) only [go_sem]
  generalize hL : loopA _ _ _ = L
  apply range_upd hL (by simp (config := { maxSteps := 4000000 }) (disch := first | (intros; contradiction) | omega) only [go_sem, a1] <;> rfl) c rowI (α := Int) (fun rest k x => lastZ val c 0 = lastZ val rest x) (fun k x => [(4, .d (.int .i64 x)), (7, .any), (10, .d (.int .i64 k)), (16, .any)]) (fun _ _ => []) 0 (by simp (config := { maxSteps := 4000000 }) (disch := first | (intros; contradiction) | omega) only [go_sem] <;> rfl) rfl ?_ ?_
  · rintro y rest j x hi hlt hrow hget hk _ next ih
    clear hL
    have ht := gtruth_e N fl out st val hx hn h3 y (hr y (List.mem_of_getElem? hget))
    simp only [grO] at ht
    simp only [rowI] at hrow
    rcases truthZ_range h3 y with q | q | q
    · rw [q] at ht
      have hi2 : lastZ val c 0 = lastZ val rest x := by rw [hi, lastZ, if_neg (by omega), if_neg (by omega)]
      simp (config := { maxSteps := 4000000 }) (disch := first | (intros; contradiction) | omega) only [go_sem, hlt, hrow, ht, a1, a2, wrap64]
      exact ih x _ hi2 (by simp (config := { maxSteps := 4000000 }) (disch := first | (intros; contradiction) | omega) only [go_sem, a1] <;> rfl)
    · rw [q] at ht
      by_cases hx0 : x = 0
      · have hi2 : lastZ val c 0 = lastZ val rest y := by rw [hi, lastZ, if_neg (by omega), if_pos q, if_neg (by omega)]
        simp (config := { maxSteps := 4000000 }) (disch := first | (intros; contradiction) | omega) only [go_sem, hlt, hrow, ht, a1, a2, wrap64, hx0]
        exact ih y _ hi2 (by simp (config := { maxSteps := 4000000 }) (disch := first | (intros; contradiction) | omega) only [go_sem, a1] <;> rfl)
      · by_cases hxy : x = y
        · have hi2 : lastZ val c 0 = lastZ val rest y := by rw [hi, lastZ, if_neg (by omega), if_pos q, if_neg (by omega)]
          simp (config := { maxSteps := 4000000 }) (disch := first | (intros; contradiction) | omega) only [go_sem, hlt, hrow, ht, a1, a2, wrap64, hx0, eq_true hxy]
          exact ih y _ hi2 (by simp (config := { maxSteps := 4000000 }) (disch := first | (intros; contradiction) | omega) only [go_sem, a1] <;> rfl)
        · have hi2 : lastZ val c 0 = (0, true) := by rw [hi, lastZ, if_neg (by omega), if_pos q, if_pos ⟨hx0, hxy⟩]
          rw [hi2]
          simp (config := { maxSteps := 4000000 }) (disch := first | (intros; contradiction) | omega) only [go_sem, hlt, hrow, ht, a1, a2, wrap64, hx0, hxy, Bool.not_true]
    · rw [q] at ht
      have hi2 : lastZ val c 0 = (0, true) := by rw [hi, lastZ, if_pos q]
      rw [hi2]
      simp (config := { maxSteps := 4000000 }) (disch := first | (intros; contradiction) | omega) only [go_sem, hlt, hrow, ht, a1, a2, wrap64, Bool.not_true]
  · rintro j x hi hlt hk next
    clear hL
    have hi2 : lastZ val c 0 = (x, decide (x ≠ 0)) := hi
    rw [hi2]
    by_cases hx0 : x = 0
    · subst hx0
      rw [show decide ((0 : Int) ≠ 0) = false from by decide]
      simp (config := { maxSteps := 4000000 }) (disch := first | (intros; contradiction) | omega) only [go_sem, hlt, a1, Bool.not_false]
    · rw [decide_eq_true hx0]
      simp (config := { maxSteps := 4000000 }) (disch := first | (intros; contradiction) | omega) only [go_sem, hlt, a1, hx0, ne_eq, Bool.not_true]
/-- Two clauses, resolved, and how. -/
def resG (all : List (List Int)) (a b : Nat) (v : Int) : Option (Ps × List Int) :=
  match resolveP (all.getD a []) (all.getD b []) v with
  | some c => some (⟨a, b, v⟩, c)
  | none => (resolveP (all.getD b []) (all.getD a []) v).map fun c => (⟨b, a, v⟩, c)
theorem gresolve_e (hx : TX ext) (hn : N ≤ 100000) (a b : Nat) (v : Int) (s : Ps) (c : List Int) (ha : a < (fl ++ out).length) (hb : b < (fl ++ out).length) (hv : v ≤ 9223372036854775807) (hall : ∀ c, c ∈ fl ++ out → c.length ≤ 100000) (h1 : (fl ++ out).length ≤ 100000) (h2 : st.length ≤ 100000) (h : resG (fl ++ out) a b v = some (s, c)) :
    G ext 90 [.ptr 0 0, .d (.int .i64 a), .d (.int .i64 b), .d (.int .i64 v)] (grO N fl out st val) = some (.ret (.d (.int .i64 (fl ++ out).length)), grO N fl (out ++ [c]) (st ++ [s]) val) := by
  have a1 := av_refs (valsL N val)
  have a2 := fun f => av_ren f (valsL N val)
  have hal : ((fl ++ out).map rowC).length = (fl ++ out).length := List.length_map _
  have hga : ((fl ++ out).map rowC)[a]? = some (rowC ((fl ++ out).getD a [])) := by
    rw [List.getElem?_map, List.getD_eq_getElem?_getD, List.getElem?_eq_getElem ha]; rfl
  have hgb : ((fl ++ out).map rowC)[b]? = some (rowC ((fl ++ out).getD b [])) := by
    rw [List.getElem?_map, List.getD_eq_getElem?_getD, List.getElem?_eq_getElem hb]; rfl
  have hla := hall ((fl ++ out).getD a []) (by rw [List.getD_eq_getElem?_getD, List.getElem?_eq_getElem ha]; exact List.getElem_mem _)
  have hlb := hall ((fl ++ out).getD b []) (by rw [List.getD_eq_getElem?_getD, List.getElem?_eq_getElem hb]; exact List.getElem_mem _)
  unfold resG at h
  generalize (fl ++ out).getD a [] = ca at hga hla h
  generalize (fl ++ out).getD b [] = cb at hgb hlb h
  have hr1 := resolveB_e hx ca cb v hla hlb hv
  have hr2 := resolveB_e hx cb ca v hlb hla hv
  have h1' : fl.length + out.length ≤ 100000 := by rw [← List.length_append]; exact h1
  have hrm1 : room (((fl ++ out).map rowC).length + 1) 24 := by rw [hal]; unfold room; simp; omega
  have hrm2 : room ((st.map rowS).length + 1) 24 := by rw [List.length_map]; unfold room; simp; omega
  have ha0 : (0 : Int) ≤ (a : Int) := by omega
  have hb0 : (0 : Int) ≤ (b : Int) := by omega
  have haN : (a : Int) < (((fl ++ out).map rowC).length : Int) := by omega
  have hbN : (b : Int) < (((fl ++ out).map rowC).length : Int) := by omega
  have hle : (fl ++ out).length = fl.length + out.length := List.length_append
  have hw : IntKind.wrap .i64 (((((fl ++ out).map rowC).length + 1 : Nat) : Int) - 1) = ((fl.length + out.length : Nat) : Int) := by rw [wrap64 (by omega) (by omega)]; omega
  have e1 : fl ++ (out ++ [c]) = (fl ++ out) ++ [c] := by simp
  simp only [rowC] at hga hgb
  unfold grO
  rw [e1]
  cases hv1 : resolveP ca cb v with
  | some c' =>
    rw [hv1] at h hr1
    simp only [Option.some.injEq, Prod.mk.injEq] at h
    obtain ⟨rfl, rfl⟩ := h
    simp only [resA] at hr1
    rw [G_body hx.clear rfl Try.func90 rfl Try.results90 hv_90 rfl]
    simp (config := { maxSteps := 4000000 }) (disch := first | (intros; contradiction) | omega) only [go_sem, hga, hgb, hr1, hrm1, hrm2, a1, a2, ha0, hb0, haN, hbN, hw]
    simp only [List.map_append, List.map_cons, List.map_nil, rowC, rowS]
  | none =>
    rw [hv1] at h hr1
    simp only at h
    cases hv2 : resolveP cb ca v with
    | none => rw [hv2] at h; cases h
    | some c' =>
      rw [hv2] at h hr2
      simp only [Option.map_some, Option.some.injEq, Prod.mk.injEq] at h
      obtain ⟨rfl, rfl⟩ := h
      simp only [resA] at hr1 hr2
      rw [G_body hx.clear rfl Try.func90 rfl Try.results90 hv_90 rfl]
      simp (config := { maxSteps := 4000000 }) (disch := first | (intros; contradiction) | omega) only [go_sem, hga, hgb, hr1, hr2, hrm1, hrm2, a1, a2, ha0, hb0, haN, hbN, hw]
      simp only [List.map_append, List.map_cons, List.map_nil, rowC, rowS]
end
end Go.Proofs.Ytchedkjlhjfadaa
namespace Go.Proofs.Ytchedkjlhjfadaa
open Go Go.Ab
variable {ext : Sem'}
def rowR (p : Int × Int) : List Dt := [.int .i64 p.1, .int .i64 p.2]
/-- What is forced, one by one, and by which clause. -/
inductive WU (fl : List (List Int)) (r : List (Int × Int)) : List (Int × Int) → List (Int × Int) → Prop
  | nil : WU fl r [] r
  | snoc {w q : List (Int × Int)} {i : Nat} {c : List Int} {x : Int} : WU fl r w q → fl[i]? = some c → lastZ (valR q) c 0 = (x, true) → x ≠ 0 → WU fl r (w ++ [(x, (i : Int))]) ((x, 0) :: q)
theorem WU.up {fl : List (List Int)} {r w q : List (Int × Int)} (h : WU fl r w q) : UP fl r q := by
  induction h with
  | nil => exact .refl _
  | snoc _ hc hl h0 ih => exact ih.snoc (List.mem_of_getElem? hc) hl h0
theorem WU.len {fl : List (List Int)} {r w q : List (Int × Int)} (h : WU fl r w q) : q.length = w.length + r.length := by
  induction h with
  | nil => simp
  | snoc _ _ _ _ ih => simp; omega
section
variable (N : Nat) (fl out : List (List Int)) (st : List Ps)
set_option maxHeartbeats 4000000 in
theorem gspread_e (hx : TX ext) (hn : N ≤ 100000) (hr : RightL N fl) (hfl : fl.length ≤ 100000 ∧ ∀ c, c ∈ fl → c.length ≤ 100000) (r : List (Int × Int)) (ht : TrInv N r) (e1 : out.length ≤ 100000) :
    ∃ w q wrong, G ext 63 [.ptr 0 0] (grO N fl out st (valR r)) = some (.ret (.tuple [.d (.sl (w.map rowR)), .d (.int .i64 wrong)]), grO N fl out st (valR q)) ∧ WU fl r w q ∧
      ((wrong = -1 ∧ ∀ c, c ∈ fl → lastZ (valR q) c 0 = (0, true)) ∨ ∃ (i : Nat) (c : List Int) (x : Int), wrong = (i : Int) ∧ fl[i]? = some c ∧ lastZ (valR q) c 0 = (x, false)) := by
  have hll : (fl.map rowC).length = fl.length := List.length_map _
  have hal : ((fl ++ out).map rowC).length = fl.length + out.length := by rw [List.length_map, List.length_append]
  have htk : List.take fl.length ((fl ++ out).map rowC) = fl.map rowC := by
    rw [List.map_append, List.take_append_of_le_length (by rw [List.length_map]; exact Nat.le_refl _), List.take_of_length_le (by rw [List.length_map]; exact Nat.le_refl _)]
  have a1 := fun l => av_refs l
  have a2 := fun l f => av_ren f l
  rw [G_body hx.clear rfl Try.func63 rfl Try.results63 hv_63 rfl]
  unfold grO
  simp (config := { maxSteps := 4000000 }) (disch := first | (intros; contradiction) | omega) only [go_sem, a1, a2]
  generalize hL : loopA _ _ _ = L
  apply loop_upd hL (by simp (config := { maxSteps := 4000000 }) (disch := first | (intros; contradiction) | omega) only [go_sem, a1, a2] <;> rfl) (α := List (Int × Int) × List (Int × Int)) (fun s => WU fl r s.1 s.2) (fun s => N - s.2.length)
    (fun s => [(2, .grow 4 s.1.length (s.1.map rowR))])
    (fun s => [(3, .cells ((valsL N (valR s.2)).map avI)), (4, .grow s.1.length 2)]) ([], r) (by simp (config := { maxSteps := 4000000 }) (disch := first | (intros; contradiction) | omega) only [go_sem, a1, a2] <;> rfl) .nil ?_
  rintro ⟨w, q⟩ i1 next ih
  simp only at i1 ih ⊢
  clear hL
  have hup := i1.up.ok hr ht
  have hql := trInv_length hup.inv
  have hwq := i1.len
  have hwl : (w.map rowR).length = w.length := List.length_map _
  have hf0 : (0 : Int) ≤ (fl.length : Int) := by omega
  have hf1 : (fl.length : Int) ≤ (((fl ++ out).map rowC).length : Int) := by omega
  have hf2 : ((fl.length : Int)).toNat = fl.length := by omega
  simp (config := { maxSteps := 4000000 }) (disch := first | (intros; contradiction) | omega) only [go_sem, a1, a2, htk, hf0, hf1, hf2]
  generalize hL : loopA _ _ _ = L
  apply range_upd hL (by simp (config := { maxSteps := 4000000 }) (disch := first | (intros; contradiction) | omega) only [go_sem, a1, a2] <;> rfl) fl rowC (α := Unit) (fun rest k _ => ∀ c, c ∈ fl.take k → lastZ (valR q) c 0 = (0, true)) (fun k _ => [(21, .d (.int .i64 k))]) (fun _ _ => []) () (by simp (config := { maxSteps := 4000000 }) (disch := first | (intros; contradiction) | omega) only [go_sem, a1, a2] <;> rfl) (by simp) ?_ ?_
  · rintro c rest k _ hi hlt hrow hget hk _ next2 ih2
    clear hL
    have hmem := List.mem_of_getElem? hget
    have hcr := hr c hmem
    have hsi := single_e N fl out st (valR q) hx hn (lits3_valR q) c (by have := hfl.2 c hmem; omega) (fun y hy => by have := hcr y hy; omega)
    simp only [grO] at hsi
    simp only [rowC] at hrow
    have hwk : IntKind.wrap .i64 ((k : Int) + 1) = ((k + 1 : Nat) : Int) := by rw [wrap64 (by omega) (by omega)]; omega
    cases hlz : lastZ (valR q) c 0 with
    | mk x b =>
      rw [hlz] at hsi
      cases b with
      | false =>
        refine ⟨w, q, (k : Int), ?_, i1, .inr ⟨k, c, x, rfl, hget, hlz⟩⟩
        simp only [Bool.not_false] at hsi
        simp (config := { maxSteps := 4000000 }) (disch := first | (intros; contradiction) | omega) only [go_sem, hlt, hrow, hsi, a1, a2]
        done
      | true =>
        simp only [Bool.not_true] at hsi
        by_cases hx0 : x = 0
        · have hx0' := eq_true hx0
          simp (config := { maxSteps := 4000000 }) (disch := first | (intros; contradiction) | omega) only [go_sem, hlt, hrow, hsi, a1, a2, hx0', hwk, not_true_eq_false]
          refine ih2 () _ ?_ (by simp (config := { maxSteps := 4000000 }) (disch := first | (intros; contradiction) | omega) only [go_sem, a1, a2] <;> rfl)
          intro d hd
          rw [List.take_add_one, hget] at hd
          rcases List.mem_append.1 hd with hd | hd
          · exact hi d hd
          · simp at hd; subst hd; rw [hlz, hx0]
        · have hfo := forced_lit hr hmem hlz hx0
          have hxr := hcr x hfo.1
          have hrm := trInv_room hup.inv hx0 hxr.2.1 hxr.2.2 hfo.2.1 0
          have hpu := gset1_e N fl out st (valR q) hx hn x (by omega)
          simp only [grO] at hpu
          have hv : valR ((x, 0) :: q) = upd (valR q) x := rfl
          have hroom : room ((w.map rowR).length + 1) 16 := by rw [hwl]; unfold room; simp; omega
          simp (config := { maxSteps := 4000000 }) (disch := first | (intros; contradiction) | omega) only [go_sem, hlt, hrow, hsi, a1, a2, hx0, hpu, hroom]
          refine ih (w ++ [(x, (k : Int))], (x, 0) :: q) _ (i1.snoc hget hlz hx0) (by simp only [List.length_cons]; omega) (by simp only [List.length_append, List.length_cons, List.length_nil, hv]; simp (config := { maxSteps := 4000000 }) (disch := first | (intros; contradiction) | omega) only [go_sem, a1, a2, List.map_append, List.map_cons, List.map_nil, rowR] <;> rfl)
  · rintro k _ hi hlt hk next2
    clear hL
    refine ⟨w, q, -1, ?_, i1, .inl ⟨rfl, fun c hcm => hi c (by rw [hk, List.take_length]; exact hcm)⟩⟩
    simp (config := { maxSteps := 4000000 }) (disch := first | (intros; contradiction) | omega) only [go_sem, hlt, a1, a2]
    done
end
end Go.Proofs.Ytchedkjlhjfadaa
namespace Go.Proofs.Ytchedkjlhjfadaa
open Go Go.Ab
/-- A clause whose literals are all false. -/
def FalseC (val : Nat → Int) (c : List Int) : Prop := ∀ y, y ∈ c → truthZ val y = -1
theorem truth_neg {val : Nat → Int} {x : Int} (h : x ≠ 0) : truthZ val (-x) = - truthZ val x := by
  unfold truthZ
  by_cases hx : x < 0
  · rw [if_neg (by omega), if_pos hx]; omega
  · rw [if_pos (by omega), if_neg hx]; simp
theorem cleanL_of : ∀ {l : List Int}, (∀ x y, x ∈ l → y ∈ l → y ≠ IntKind.wrap .i64 (0 - x)) → cleanL l = true
  | [], _ => rfl
  | [_], _ => rfl
  | x :: y :: l, h => by
    unfold cleanL
    rw [decide_eq_false (h x y (by simp) (by simp)), cleanL_of (l := y :: l) (fun a b ha hb => h a b (by simp [ha]) (by simp [hb]))]
    rfl
theorem res_false {N : Nat} (hN : N ≤ 100000) {val : Nat → Int} {a b : List Int} {v : Int} (ha : RightC N a) (hb : RightC N b) (hv : 1 ≤ v) (h1 : v ∈ a) (h2 : -v ∈ b) (fa : ∀ y, y ∈ a → y = v ∨ truthZ val y = -1) (fb : ∀ y, y ∈ b → y = -v ∨ truthZ val y = -1) :
    ∃ d, resolveP a b v = some d ∧ FalseC val d ∧ RightC N d ∧ d.Nodup := by
  have hmem : ∀ z, z ∈ normL (withoutP v a ++ withoutP (0 - v) b) ↔ (z ∈ a ∧ z ≠ v) ∨ (z ∈ b ∧ z ≠ 0 - v) := by
    intro z
    rw [mem_norm]
    simp only [withoutP, List.mem_append, List.mem_filter, decide_eq_true_eq]
  have hF : FalseC val (normL (withoutP v a ++ withoutP (0 - v) b)) := fun y hy => by
    rcases (hmem y).1 hy with ⟨h, h3⟩ | ⟨h, h3⟩
    · exact (fa y h).resolve_left h3
    · exact (fb y h).resolve_left (by omega)
  have hR : RightC N (normL (withoutP v a ++ withoutP (0 - v) b)) := fun y hy => by
    rcases (hmem y).1 hy with ⟨h, _⟩ | ⟨h, _⟩
    · exact ha y h
    · exact hb y h
  refine ⟨_, ?_, hF, hR, norm_nodup _⟩
  unfold resolveP
  rw [if_neg, if_pos]
  · refine cleanL_of fun x y hx hy e => ?_
    have hxr := hR x hx
    rw [wrap64 (by omega) (by omega)] at e
    have t1 := hF x hx
    have t2 := hF y hy
    rw [e, show 0 - x = -x by omega, truth_neg hxr.1, t1] at t2
    omega
  · rintro (h | h | h)
    · omega
    · rw [has_iff.2 h1] at h; cases h
    · rw [has_iff.2 (show 0 - v ∈ b by rw [show 0 - v = -v by omega]; exact h2)] at h; cases h
theorem res_none {a b : List Int} {v : Int} (h : v ∉ a) : resolveP a b v = none := by
  unfold resolveP
  rw [if_pos]
  right; left
  cases hh : hasP a v with
  | false => rfl
  | true => exact absurd (has_iff.1 hh) h
theorem truth_upd1 {val : Nat → Int} {x : Int} (h : x ≠ 0) : truthZ (upd val x) x = 1 := by
  unfold truthZ upd
  by_cases hx : x < 0
  · rw [if_pos hx, if_pos (by omega), if_pos hx]; rfl
  · rw [if_neg hx, if_pos (by omega), if_neg hx]
theorem truth_updo {val : Nat → Int} {x y : Int} (h1 : y ≠ x) (h2 : y ≠ -x) : truthZ (upd val x) y = truthZ val y := by
  unfold truthZ upd
  by_cases hy : y < 0
  · rw [if_pos hy, if_pos hy, if_neg (by omega)]
  · rw [if_neg hy, if_neg hy, if_neg (by omega)]
theorem false_upd {val : Nat → Int} {x y : Int} (h0 : x ≠ 0) (h : truthZ (upd val x) y = -1) : y = -x ∨ truthZ val y = -1 := by
  by_cases h1 : y = x
  · subst h1; rw [truth_upd1 h0] at h; omega
  · by_cases h2 : y = -x
    · exact .inl h2
    · rw [truth_updo h1 h2] at h; exact .inr h
theorem single_spec {N : Nat} {fl : List (List Int)} (hr : RightL N fl) {val : Nat → Int} (h3 : lits3 val) {c : List Int} (hc : c ∈ fl) {x : Int} (hl : lastZ val c 0 = (x, true)) (h0 : x ≠ 0) : x ∈ c ∧ ∀ y, y ∈ c → y = x ∨ truthZ val y = -1 := by
  have hcc := fun y hy => (hr c hc y hy).1
  rcases lastZ_spec h3 c 0 hcc (fun h => absurd rfl h) with ⟨h1, _⟩ | ⟨z, h1, h2, h3, h4, h5⟩ | ⟨h1, _, _⟩
  · rw [h1] at hl; simp at hl; exact absurd hl.symm h0
  · rw [h1] at hl; simp at hl
    subst hl
    exact ⟨h3.resolve_left h2, h5⟩
  · rw [h1] at hl; simp at hl
theorem conflict_spec {N : Nat} {fl : List (List Int)} (hr : RightL N fl) {val : Nat → Int} (h3 : lits3 val) {c : List Int} (hc : c ∈ fl) {x : Int} (hl : lastZ val c 0 = (x, false)) : FalseC val c := by
  have hcc := fun y hy => (hr c hc y hy).1
  rcases lastZ_spec h3 c 0 hcc (fun h => absurd rfl h) with ⟨h1, _⟩ | ⟨z, h1, _⟩ | ⟨_, _, h5⟩
  · rw [h1] at hl; simp at hl
  · rw [h1] at hl; simp at hl
  · exact h5
/-- One literal, taken back: a clause that was false is so still, or resolves to one. -/
theorem clean_step {N : Nat} (hN : N ≤ 100000) {val : Nat → Int} {x : Int} (h0 : x ≠ 0) {all : List (List Int)} {c i : Nat} (hc : RightC N (all.getD c [])) (hi : RightC N (all.getD i [])) (hx : x ∈ all.getD i []) (hu : ∀ y, y ∈ all.getD i [] → y = x ∨ truthZ val y = -1) (hf : FalseC (upd val x) (all.getD c [])) :
    (-x ∉ all.getD c [] → FalseC val (all.getD c [])) ∧ (-x ∈ all.getD c [] → ∃ s d, resG all c i (if x < -x then -x else x) = some (s, d) ∧ FalseC val d ∧ RightC N d ∧ d.Nodup ∧ (s = ⟨c, i, if x < -x then -x else x⟩ ∨ s = ⟨i, c, if x < -x then -x else x⟩) ∧ resolveP (all.getD s.a.toNat []) (all.getD s.b.toNat []) s.on = some d) := by
  have hfc : ∀ y, y ∈ all.getD c [] → y = -x ∨ truthZ val y = -1 := fun y hy => false_upd h0 (hf y hy)
  have hxc : x ∉ all.getD c [] := fun h => by have := hf x h; rw [truth_upd1 h0] at this; omega
  constructor
  · intro h y hy
    exact (hfc y hy).resolve_left (fun e => h (e ▸ hy))
  · intro h
    by_cases hs : x < -x
    · rw [if_pos hs]
      obtain ⟨d, hd, h1, h2, h3⟩ := res_false hN hc hi (v := -x) (by omega) h (by rw [show - -x = x by omega]; exact hx) hfc (fun y hy => by rw [show - -x = x by omega]; exact hu y hy)
      refine ⟨⟨c, i, -x⟩, d, ?_, h1, h2, h3, .inl rfl, ?_⟩
      · unfold resG; rw [hd]
      · simp only [Int.toNat_natCast]; exact hd
    · rw [if_neg hs]
      obtain ⟨d, hd, h1, h2, h3⟩ := res_false hN hi hc (v := x) (by omega) hx h hu hfc
      refine ⟨⟨i, c, x⟩, d, ?_, h1, h2, h3, .inr rfl, ?_⟩
      · unfold resG; rw [res_none hxc, hd]; rfl
      · simp only [Int.toNat_natCast]; exact hd
/-- A choice, both ways. -/
theorem choose_step {N : Nat} (hN : N ≤ 100000) {val : Nat → Int} {v : Int} (hv : 1 ≤ v) {all : List (List Int)} {c d : Nat} (hc : RightC N (all.getD c [])) (hd : RightC N (all.getD d [])) (h1 : v ∈ all.getD c []) (h2 : -v ∈ all.getD d []) (f1 : FalseC (upd val (-v)) (all.getD c [])) (f2 : FalseC (upd val v) (all.getD d [])) :
    ∃ s e, resG all c d v = some (s, e) ∧ FalseC val e ∧ RightC N e ∧ e.Nodup ∧ s = ⟨c, d, v⟩ ∧ resolveP (all.getD c []) (all.getD d []) v = some e := by
  obtain ⟨e, he, k1, k2, k3⟩ := res_false hN hc hd hv h1 h2 (fun y hy => by have := false_upd (by omega) (f1 y hy); rwa [show - -v = v by omega] at this) (fun y hy => false_upd (by omega) (f2 y hy))
  exact ⟨_, e, by unfold resG; rw [he], k1, k2, k3, rfl, he⟩
end Go.Proofs.Ytchedkjlhjfadaa
