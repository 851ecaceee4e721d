/- solve's search: what is forced. Conditions: none. -/
import Derived.Test.YtchedkjlhjfadaaS1
set_option linter.unusedSimpArgs false
set_option linter.unusedVariables false
namespace Go.Proofs.Ytchedkjlhjfadaa
open Go Go.Ab
variable {ext : Sem'}
section
variable (n : Nat) (fl : List (List Int))
set_option maxHeartbeats 1000000 in
theorem last_e (hx : TX ext) (hn : n ≤ 100000) (val : Nat → Int) (h3 : lits3 val) (e k : Nat) (cs : List AV) (hc : DC cs) (steps : Int) (c : List Int) (hcl : c.length ≤ 1000000) (hr : ∀ y, y ∈ c → y.natAbs ≤ n) :
    G ext 74 [.ptr 0 0, .d (.sl (c.map rowI))] (srcO n fl val e k cs steps) = some (.ret (.tuple [.d (.int .i64 (lastZ val c 0).1), .d (.bool (lastZ val c 0).2)]), srcO n fl val e k cs steps) := by
  have hll : (c.map rowI).length = c.length := List.length_map _
  have a1 := av_refs (valsL n val)
  have a2 := fun f => av_ren f (valsL n val)
  have c1 := hc.r1
  have c2 := hc.r2
  rw [G_body hx.clear rfl Try.func74 rfl Try.results74 hv_74 rfl]
  unfold srcO
  simp (config := { maxSteps := 4000000 }) (disch := first | (intros; contradiction) | omega) only [go_sem]
  generalize hL : loopA _ _ _ = L
  apply range_upd hL (by simp (config := { maxSteps := 4000000 }) (disch := first | (intros; contradiction) | omega) only [go_sem, a1, c1] <;> rfl) c rowI (α := Int) (fun rest k x => lastZ val c 0 = lastZ val rest x) (fun k x => [(4, .d (.int .i64 x)), (7, .any), (10, .d (.int .i64 k)), (16, .any)]) (fun _ _ => []) 0 (by simp (config := { maxSteps := 4000000 }) (disch := first | (intros; contradiction) | omega) only [go_sem] <;> rfl) rfl ?_ ?_
  · rintro y rest j x hi hlt hrow hget hk _ next ih
    clear hL
    have ht := truth_e n fl val e k cs steps hx hn h3 hc y (hr y (List.mem_of_getElem? hget))
    simp only [srcO] at ht
    simp only [rowI] at hrow
    rcases truthZ_range h3 y with q | q | q
    · rw [q] at ht
      have hi2 : lastZ val c 0 = lastZ val rest x := by rw [hi, lastZ, if_neg (by omega), if_neg (by omega)]
      simp (config := { maxSteps := 4000000 }) (disch := first | (intros; contradiction) | omega) only [go_sem, hlt, hrow, ht, a1, a2, c1, c2, wrap64]
      exact ih x _ hi2 (by simp (config := { maxSteps := 4000000 }) (disch := first | (intros; contradiction) | omega) only [go_sem, a1, c1] <;> rfl)
    · rw [q] at ht
      by_cases hx0 : x = 0
      · have hi2 : lastZ val c 0 = lastZ val rest y := by rw [hi, lastZ, if_neg (by omega), if_pos q, if_neg (by omega)]
        simp (config := { maxSteps := 4000000 }) (disch := first | (intros; contradiction) | omega) only [go_sem, hlt, hrow, ht, a1, a2, c1, c2, wrap64, hx0]
        exact ih y _ hi2 (by simp (config := { maxSteps := 4000000 }) (disch := first | (intros; contradiction) | omega) only [go_sem, a1, c1] <;> rfl)
      · by_cases hxy : x = y
        · have hi2 : lastZ val c 0 = lastZ val rest y := by rw [hi, lastZ, if_neg (by omega), if_pos q, if_neg (by omega)]
          simp (config := { maxSteps := 4000000 }) (disch := first | (intros; contradiction) | omega) only [go_sem, hlt, hrow, ht, a1, a2, c1, c2, wrap64, hx0, eq_true hxy]
          exact ih y _ hi2 (by simp (config := { maxSteps := 4000000 }) (disch := first | (intros; contradiction) | omega) only [go_sem, a1, c1] <;> rfl)
        · have hi2 : lastZ val c 0 = (0, true) := by rw [hi, lastZ, if_neg (by omega), if_pos q, if_pos ⟨hx0, hxy⟩]
          rw [hi2]
          simp (config := { maxSteps := 4000000 }) (disch := first | (intros; contradiction) | omega) only [go_sem, hlt, hrow, ht, a1, a2, c1, c2, wrap64, hx0, hxy]
    · rw [q] at ht
      have hi2 : lastZ val c 0 = (0, true) := by rw [hi, lastZ, if_pos q]
      rw [hi2]
      simp (config := { maxSteps := 4000000 }) (disch := first | (intros; contradiction) | omega) only [go_sem, hlt, hrow, ht, a1, a2, c1, c2, wrap64]
  · rintro j x hi hlt hk next
    clear hL
    have hi2 : lastZ val c 0 = (x, decide (x ≠ 0)) := hi
    rw [hi2]
    by_cases hx0 : x = 0
    · subst hx0
      rw [show decide ((0 : Int) ≠ 0) = false from by decide]
      simp (config := { maxSteps := 4000000 }) (disch := first | (intros; contradiction) | omega) only [go_sem, hlt, a1, c1]
    · simp (config := { maxSteps := 4000000 }) (disch := first | (intros; contradiction) | omega) only [go_sem, hlt, a1, c1, hx0, ne_eq]
/-- What is forced, one by one. -/
inductive UP (ls : List (List Int)) : List (Int × Int) → List (Int × Int) → Prop
  | refl (r) : UP ls r r
  | step {r r' : List (Int × Int)} {c : List Int} {x : Int} (hc : c ∈ ls) (hl : lastZ (valR r) c 0 = (x, true)) (h0 : x ≠ 0) (h : UP ls ((x, 0) :: r) r') : UP ls r r'
theorem UP.snoc {ls : List (List Int)} {r r' : List (Int × Int)} {c : List Int} {x : Int} (h : UP ls r r') (hc : c ∈ ls) (hl : lastZ (valR r') c 0 = (x, true)) (h0 : x ≠ 0) : UP ls r ((x, 0) :: r') := by
  induction h with
  | refl r => exact .step hc hl h0 (.refl _)
  | step hc' hl' h0' _ ih => exact .step hc' hl' h0' (ih hl)
/-- What forcing leaves. -/
structure Upd (n : Nat) (ls : List (List Int)) (r r' : List (Int × Int)) : Prop where
  inv : TrInv n r'
  ext : Go.Proofs.Ytchedkjlhjfadaa.ext n ls r' = Go.Proofs.Ytchedkjlhjfadaa.ext n ls r
  rest : Go.Proofs.Ytchedkjlhjfadaa.rest n ls r' = Go.Proofs.Ytchedkjlhjfadaa.rest n ls r
  mu : mu n r' ≤ mu n r
  len : r.length ≤ r'.length
theorem UP.ok {n : Nat} {ls : List (List Int)} (hr : RightL n ls) {r r' : List (Int × Int)} (h : UP ls r r') (ht : TrInv n r) : Upd n ls r r' := by
  induction h with
  | refl r => exact ⟨ht, rfl, rfl, Nat.le_refl _, Nat.le_refl _⟩
  | step hc hl h0 h ih =>
    rename_i r r' c x
    obtain ⟨h1, h2, h3⟩ := forced_lit hr hc hl h0
    obtain ⟨g1, g2, g3⟩ := hr c hc x h1
    obtain ⟨i1, i2⟩ := trInv_room ht h0 g2 g3 h2 0
    obtain ⟨j1, j2, j3, j4, j5⟩ := ih i1
    exact ⟨j1, j2.trans (ext_forced hr hc hl h0), j3.trans (by simp [Go.Proofs.Ytchedkjlhjfadaa.rest]), by have := mu_put i2 x 0; omega, by simp at j5; omega⟩
def trailO (n : Nat) (fl : List (List Int)) (r : List (Int × Int)) (e : Nat) (cs : List AV) (steps : Int) : List AObj := srcO n fl (valR r) e r.length cs steps
/-- A trail in memory. -/
structure TrOk (r : List (Int × Int)) (cs : List AV) : Prop where
  dc : DC cs
  pre : cs.take (r.length * 2) = trC r.reverse
theorem TrOk.le {r : List (Int × Int)} {cs : List AV} (h : TrOk r cs) : r.length * 2 ≤ cs.length := by
  have := congrArg List.length h.pre
  rw [trC_len, List.length_take, List.length_reverse] at this
  omega
theorem TrOk.put {r : List (Int × Int)} {cs : List AV} (h : TrOk r cs) (x how : Int) : TrOk ((x, how) :: r) (cs.take (r.length * 2) ++ trC [(x, how)]) := by
  refine ⟨dc_app (dc_of' h.dc _) (dc_tr _), ?_⟩
  have h1 : (cs.take (r.length * 2)).length = r.length * 2 := by rw [List.length_take]; have := h.le; omega
  rw [List.take_of_length_le (by rw [List.length_append, h1, trC_len, List.length_cons, List.length_cons, List.length_nil]; omega), h.pre, List.reverse_cons, trC_app]
theorem putT_e (hx : TX ext) (hn : n ≤ 100000) {r : List (Int × Int)} {cs : List AV} (h : TrOk r cs) (hrl : r.length ≤ n) (e : Nat) (x how : Int) (hxn : x.natAbs ≤ n) (steps : Int) (hs : 0 ≤ steps ∧ steps ≤ 1000000000000000) :
    G ext 73 [.ptr 0 0, .d (.int .i64 x), .d (.int .i64 how)] (trailO n fl r e cs steps) = some (.ret (.tuple []), trailO n fl ((x, how) :: r) (e + 1) (cs.take (r.length * 2) ++ trC [(x, how)]) (steps + 1)) := by
  have := put_e n fl (valR r) e r.length cs steps hx hn h.dc x how hxn (by omega) h.le hs
  exact this
theorem spread_e (hx : TX ext) (hn : n ≤ 100000) (hr : RightL n fl) (hfl : fl.length ≤ 1000000 ∧ ∀ c, c ∈ fl → c.length ≤ 1000000) (r : List (Int × Int)) (ht : TrInv n r) (e : Nat) (cs : List AV) (hc : TrOk r cs) (steps : Int) (hs : 0 ≤ steps ∧ steps ≤ 100000000000000) :
    ∃ r' e' cs' b, G ext 53 [.ptr 0 0] (trailO n fl r e cs steps) = some (.ret (.d (.bool b)), trailO n fl r' e' cs' (steps + (r'.length - r.length))) ∧ UP fl r r' ∧ TrOk r' cs' ∧
      (b = true → ∀ c, c ∈ fl → lastZ (valR r') c 0 = (0, true)) ∧ (b = false → ∃ c x, c ∈ fl ∧ lastZ (valR r') c 0 = (x, false)) := by
  have hll : (fl.map rowC).length = fl.length := List.length_map _
  have a1 := fun l => av_refs l
  have a2 := fun l f => av_ren f l
  have c1 := hc.dc.r1
  rw [G_body hx.clear rfl Try.func53 rfl Try.results53 hv_53 rfl]
  unfold trailO srcO
  simp (config := { maxSteps := 4000000 }) (disch := first | (intros; contradiction) | omega) only [go_sem]
  generalize hL : loopA _ _ _ = L
  apply loop_upd hL (by simp (config := { maxSteps := 4000000 }) (disch := first | (intros; contradiction) | omega) only [go_sem, a1, c1] <;> rfl) (α := List (Int × Int) × Nat × List AV) (fun s => UP fl r s.1 ∧ TrOk s.1 s.2.2) (fun s => n - s.1.length)
    (fun s => [(5, .any), (6, .any), (7, .any), (14, .any), (15, .any), (16, .any)])
    (fun s => [(0, .cells [.d (.int .i64 n), .d (.sl (fl.map rowC)), .own 1 0 (n + 1) 1, .stk 2 s.2.1 s.1.length, .d (.int .i64 (steps + (s.1.length - r.length)))]), (1, .cells ((valsL n (valR s.1)).map avI)), (2, .stk s.2.1 2 s.2.2)]) (r, e, cs) (by simp only [Int.sub_self, Int.add_zero]; simp (config := { maxSteps := 4000000 }) (disch := first | (intros; contradiction) | omega) only [go_sem] <;> rfl) ⟨.refl _, hc⟩ ?_
  rintro ⟨q, f, ds⟩ ⟨i1, i2⟩ next ih
  simp only at i1 i2 ih ⊢
  clear hL
  have hup := i1.ok hr ht
  have hql := trInv_length hup.inv
  have d1 := i2.dc.r1
  have d2 := i2.dc.r2
  simp (config := { maxSteps := 4000000 }) (disch := first | (intros; contradiction) | omega) only [go_sem, a1, d1]
  generalize hL : loopA _ _ _ = L
  apply range_upd hL (by simp (config := { maxSteps := 4000000 }) (disch := first | (intros; contradiction) | omega) only [go_sem, a1, d1] <;> rfl) fl rowC (α := Unit) (fun rest k _ => ∀ c, c ∈ fl.take k → lastZ (valR q) c 0 = (0, true)) (fun k _ => [(5, .any), (6, .any), (7, .any), (16, .d (.int .i64 k))]) (fun _ _ => []) () (by simp (config := { maxSteps := 4000000 }) (disch := first | (intros; contradiction) | omega) only [go_sem] <;> rfl) (by simp) ?_ ?_
  · rintro c rest k _ hi hlt hrow hget hk _ next2 ih2
    clear hL
    have hmem := List.mem_of_getElem? hget
    have hcr := hr c hmem
    have hla := last_e n fl hx hn (valR q) (lits3_valR q) f q.length ds i2.dc (steps + (q.length - r.length)) c (hfl.2 c hmem) (fun y hy => by have := hcr y hy; omega)
    simp only [srcO] at hla
    simp only [rowC] at hrow
    cases hlz : lastZ (valR q) c 0 with
    | mk x b =>
      rw [hlz] at hla
      cases b with
      | false =>
        refine ⟨q, f, ds, false, ?_, i1, i2, by simp, fun _ => ⟨c, x, hmem, hlz⟩⟩
        simp (config := { maxSteps := 4000000 }) (disch := first | (intros; contradiction) | omega) only [go_sem, hlt, hrow, hla, a1, a2, d1, d2]
      | true =>
        by_cases hx0 : x = 0
        · have hx0' := eq_true hx0
          simp (config := { maxSteps := 4000000 }) (disch := first | (intros; contradiction) | omega) only [go_sem, hlt, hrow, hla, a1, a2, d1, d2, hx0', wrap64, not_true_eq_false]
          refine ih2 () _ ?_ (by simp (config := { maxSteps := 4000000 }) (disch := first | (intros; contradiction) | omega) only [go_sem, a1, d1] <;> rfl)
          intro d hd
          rw [List.take_add_one, hget] at hd
          rcases List.mem_append.1 hd with hd | hd
          · exact hi d hd
          · simp at hd; subst hd; rw [hlz, hx0]
        · have hfo := forced_lit hr hmem hlz hx0
          have hxr := hcr x hfo.1
          have hrm := trInv_room hup.inv hx0 hxr.2.1 hxr.2.2 hfo.2.1 0
          have hpu := putT_e n fl hx hn i2 hql f x 0 (by omega) (steps + (q.length - r.length)) (by have := hup.len; omega)
          have hst : steps + ((q.length : Int) - r.length) + 1 = steps + (((q.length + 1 : Nat) : Int) - r.length) := by omega
          rw [hst] at hpu
          simp only [trailO, srcO, List.length_cons] at hpu
          have hput := i2.put x 0
          generalize ds.take (q.length * 2) ++ trC [(x, 0)] = ds' at hpu hput
          have p1 := hput.dc.r1
          have p2 := hput.dc.r2
          simp (config := { maxSteps := 4000000 }) (disch := first | (intros; contradiction) | omega) only [go_sem, hlt, hrow, hla, a1, a2, d1, d2, p1, p2, hx0, hpu]
          refine ih ((x, 0) :: q, f + 1, ds') _ ⟨i1.snoc hmem hlz hx0, hput⟩ (by simp only [List.length_cons]; omega) (by simp only [List.length_cons]; simp (config := { maxSteps := 4000000 }) (disch := first | (intros; contradiction) | omega) only [go_sem, a1, a2, p1, p2] <;> rfl)
  · rintro k _ hi hlt hk next2
    clear hL
    refine ⟨q, f, ds, true, ?_, i1, i2, fun _ c hcm => hi c (by rw [hk, List.take_length]; exact hcm), by simp⟩
    simp (config := { maxSteps := 4000000 }) (disch := first | (intros; contradiction) | omega) only [go_sem, hlt, a1, d1]
end
end Go.Proofs.Ytchedkjlhjfadaa
