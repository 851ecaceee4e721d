/- Law 14: the formula that calls of a builder make. Conditions: none. -/
import Derived.Test.YtdmambkajegldaaC12
set_option linter.unusedSimpArgs false
set_option linter.unusedVariables false
namespace Go.Proofs.Ytdmambkajegldaa
open Go Go.Ab
variable {ext : Sem'}
structure Bd1 where
  kind : Int
  x : Int
  y : Int
  a : List Int
  b : List Int
def Bd1.row (o : Bd1) : List Dt := [.int .i64 o.kind, .int .i64 o.x, .int .i64 o.y, .sl (o.a.map rowI), .sl (o.b.map rowI)]
theorem right_all {n : Int} {c : List Int} (h0 : 0 ≤ n) (h1 : n ≤ 100000) : rightP ⟨n, [c]⟩ = allP n c := by
  unfold rightP
  simp only [List.all_cons, List.all_nil, List.length_cons, List.length_nil, Bool.and_true]
  rw [decide_eq_false (show ¬ n < 0 by omega), decide_eq_false (show ¬ 100000 < n by omega)]
  simp
/-- What a clause makes of a formula's clauses. -/
def addP (n : Int) (out : List (List Int)) (c : List Int) : List (List Int) := if allP n c then out ++ [c] else out
def addE (n : Int) (e : Nat) (c : List Int) : Nat := if allP n c then e + 1 else e
theorem bldC_add (n : Int) (e : Nat) (out : List (List Int)) (c : List Int) : bldC n e out c = bldO n (addE n e c) (addP n out c) := by
  unfold bldC addP addE
  split <;> rfl
theorem put_add {n : Int} {out : List (List Int)} {c : List Int} (h0 : 0 ≤ n) (h1 : n ≤ 100000) : putP ⟨n, out⟩ c = ⟨n, addP n out c⟩ := by
  unfold putP addP
  rw [right_all h0 h1]
  split <;> rfl
theorem add_len (n : Int) (out : List (List Int)) (c : List Int) : (addP n out c).length ≤ out.length + 1 := by
  unfold addP
  split <;> simp
theorem add_mem {n : Int} {out : List (List Int)} {c : List Int} {m : Nat} (h : ∀ d, d ∈ out → d.length ≤ m) (hc : c.length ≤ m) : ∀ d, d ∈ addP n out c → d.length ≤ m := by
  intro d hd
  unfold addP at hd
  split at hd
  · rcases List.mem_append.1 hd with h1 | h1
    · exact h d h1
    · simp at h1; subst h1; exact hc
  · exact h d hd
/-- A formula's clauses in memory. -/
def wantV (b : Bool) (out : List (List Int)) : AV := if b then .d (.sl (out.map rowC)) else .grow 3 0 []
theorem len_negs (a : List Int) : (negs a).length = a.length := List.length_map _
set_option maxHeartbeats 16000000 in
theorem buildsL_e (hx : TX ext) (l : List Bd1) : G ext 4 [.d (.sl (l.map Bd1.row))] [] = some (.ret (.d (.bool true)), []) := by
  have ha := alive14_e hx
  have hll : (l.map Bd1.row).length = l.length := List.length_map _
  have hnew := new_e hx
  simp only [bldO, List.map_nil] at hnew
  rw [G_body hx.clear rfl Try.func4 rfl Try.results4 hv_4 rfl]
  by_cases h40 : (40 : Int) < ((l.map Bd1.row).length : Int)
  · simp (config := { maxSteps := 4000000 }) (disch := first | (intros; contradiction) | omega) only [go_sem, h40, ha]
  · simp (config := { maxSteps := 4000000 }) (disch := first | (intros; contradiction) | omega) only [go_sem, h40, hnew]
    generalize hL : loopA _ _ _ = L
    apply range_upd hL (by simp (config := { maxSteps := 4000000 }) (disch := first | (intros; contradiction) | omega) only [go_sem] <;> rfl) l Bd1.row (α := Int × Nat × List (List Int) × Bool) (fun rest k s => 0 ≤ s.1 ∧ s.1 ≤ k ∧ s.2.2.1.length ≤ 2 * k ∧ (∀ c, c ∈ s.2.2.1 → c.length ≤ 200) ∧ (s.2.2.2 = false → s.2.2.1 = [])) (fun k s => [(6, .d (.int .i64 k)), (7, .any), (8, .any), (9, .any), (58, .any)])
      (fun k s => [(0, .cells [.d (.int .i64 s.1), .grow 1 s.2.1 (s.2.2.1.map rowC)]), (1, .grow s.2.1 1), (2, .cells [.d (.int .i64 s.1), wantV s.2.2.2 s.2.2.1])]) (0, 0, [], false) (by simp (config := { maxSteps := 4000000 }) (disch := first | (intros; contradiction) | omega) only [go_sem] <;> rfl) ⟨by decide, by decide, by decide, by simp, fun _ => rfl⟩ ?_ ?_
    · rintro o rest k ⟨n, e, out, b⟩ ⟨i1, i2, i3, i4, i5⟩ hlt hr hget hk _ next ih
      clear hL hnew
      simp only at i1 i2 i3 i4 i5
      have hk40 : k < 40 := by omega
      have hca := clause_e hx o.a
      have hcb := clause_e hx o.b
      simp only [Bd1.row] at hr
      cases hba : clauseP o.a with
      | false =>
        rw [hba] at hca
        cases b with
        | false =>
          rw [show wantV false out = .grow 3 0 [] from rfl]
          simp (config := { maxSteps := 4000000 }) (disch := first | (intros; contradiction) | omega) only [go_sem, hlt, hr, hca, ha]
        | true =>
          rw [show wantV true out = .d (.sl (out.map rowC)) from rfl]
          simp (config := { maxSteps := 4000000 }) (disch := first | (intros; contradiction) | omega) only [go_sem, hlt, hr, hca, ha]
      | true =>
        rw [hba] at hca
        cases hbb : clauseP o.b with
        | false =>
          rw [hbb] at hcb
          cases b with
          | false =>
            rw [show wantV false out = .grow 3 0 [] from rfl]
            simp (config := { maxSteps := 4000000 }) (disch := first | (intros; contradiction) | omega) only [go_sem, hlt, hr, hca, hcb, ha]
          | true =>
            rw [show wantV true out = .d (.sl (out.map rowC)) from rfl]
            simp (config := { maxSteps := 4000000 }) (disch := first | (intros; contradiction) | omega) only [go_sem, hlt, hr, hca, hcb, ha]
        | true =>
          rw [hbb] at hcb
          have hal := (clause_inv hba).1
          have hbl := (clause_inv hbb).1
          have bc0 := G_ext (hx.bclause0 o.a (by omega))
          have im0 := imply0_e hx o.a o.b (by omega) (by omega)
          cases b with
          | true =>
            rw [show wantV true out = .d (.sl (out.map rowC)) from rfl]
            by_cases z1 : o.x < -1000000
            · simp (config := { maxSteps := 4000000 }) (disch := first | (intros; contradiction) | omega) only [go_sem, hlt, hr, hca, hcb, z1, ha]
            · by_cases z2 : 1000000 < o.x
              · simp (config := { maxSteps := 4000000 }) (disch := first | (intros; contradiction) | omega) only [go_sem, hlt, hr, hca, hcb, z1, z2, ha]
              · by_cases z3 : o.y < -1000000
                · simp (config := { maxSteps := 4000000 }) (disch := first | (intros; contradiction) | omega) only [go_sem, hlt, hr, hca, hcb, z1, z2, z3, ha]
                · by_cases z4 : 1000000 < o.y
                  · simp (config := { maxSteps := 4000000 }) (disch := first | (intros; contradiction) | omega) only [go_sem, hlt, hr, hca, hcb, z1, z2, z3, z4, ha]
                  · have sm0 := bsame0_e hx o.x o.y (by omega) (by omega)
                    simp (config := { maxSteps := 4000000 }) (disch := first | (intros; contradiction) | omega) only [go_sem, hlt, hr, hca, hcb, z1, z2, z3, z4]
                    by_cases kd0 : o.kind = 0
                    · have vv := var_e hx n e out
                      have hw : IntKind.wrap .i64 (n + 1) = n + 1 := wrap64 (by omega) (by omega)
                      rw [hw] at vv
                      have hO : ∀ c : List Int, c ∈ (out : List (List Int)) → c.length ≤ 200 := i4
                      have hl2 : (out : List (List Int)).length ≤ 900 := by omega
                      have hN : 0 ≤ ((n + 1) : Int) ∧ ((n + 1) : Int) ≤ k + 1 := by omega
                      have ff := G_ext (hx.bformula (n + 1) e out (by omega) (fun c hc => by have := hO c hc; omega))
                      have sm := same_e hx ⟨(n + 1), out⟩ ⟨(n + 1), out⟩ (by simp only; omega) (fun c hc => by have := hO c hc; omega)
                      rw [decide_eq_true rfl, decide_eq_true rfl] at sm
                      simp only [Bool.and_self, Fm.av, bldO, List.map_nil] at ff sm
                      simp only [bldO, List.map_nil] at vv
                      have kd0 := eq_true kd0
                      simp (config := { maxSteps := 4000000 }) (disch := first | (intros; contradiction) | omega) only [go_sem, kd0, hw, vv, bc0, im0, sm0, ff, sm, wrap64, not_true_eq_false]
                      exact ih (n + 1, e, out, true) _ ⟨by simp only; omega, by simp only; omega, by simp only; omega, hO, i5⟩ (by simp (config := { maxSteps := 4000000 }) (disch := first | (intros; contradiction) | omega) only [go_sem] <;> rfl)
                    · by_cases kd1 : o.kind = 1
                      · have bc := G_ext (hx.bclause n e out o.a (by omega) (by omega))
                        rw [bldC_add] at bc
                        have pe := put_e hx ⟨n, out⟩ o.a (by simp only; omega) (by omega)
                        rw [put_add (by omega) (by omega)] at pe
                        have hO : ∀ c, c ∈ addP n out o.a → c.length ≤ 200 := add_mem i4 (by omega)
                        have hl2 := add_len n out o.a
                        generalize addE n e o.a = e2 at bc
                        generalize addP n out o.a = out2 at bc pe hO hl2
                        have hN : 0 ≤ (n : Int) ∧ (n : Int) ≤ k + 1 := by omega
                        have ff := G_ext (hx.bformula n e2 out2 (by omega) (fun c hc => by have := hO c hc; omega))
                        have sm := same_e hx ⟨n, out2⟩ ⟨n, out2⟩ (by simp only; omega) (fun c hc => by have := hO c hc; omega)
                        rw [decide_eq_true rfl, decide_eq_true rfl] at sm
                        simp only [Bool.and_self, Fm.av, bldO, List.map_nil] at ff sm
                        simp only [bldO, Fm.av, List.map_nil] at bc pe
                        have kd1 := eq_true kd1
                        simp (config := { maxSteps := 4000000 }) (disch := first | (intros; contradiction) | omega) only [go_sem, kd0, kd1, bc, pe, bc0, im0, sm0, ff, sm, wrap64]
                        exact ih (n, e2, out2, true) _ ⟨by simp only; omega, by simp only; omega, by simp only; omega, hO, fun h => by cases h⟩ (by simp (config := { maxSteps := 4000000 }) (disch := first | (intros; contradiction) | omega) only [go_sem] <;> rfl)
                      · by_cases kd2 : o.kind = 2
                        · have im := imply_e hx n e out o.a o.b (by omega) (by omega) (by omega)
                          rw [bldC_add] at im
                          have hnl := len_negs o.a
                          have pe := put_e hx ⟨n, out⟩ (negs o.a ++ o.b) (by simp only; omega) (by rw [List.length_append]; omega)
                          rw [put_add (by omega) (by omega)] at pe
                          have hO : ∀ c, c ∈ addP n out (negs o.a ++ o.b) → c.length ≤ 200 := add_mem i4 (by rw [List.length_append]; omega)
                          have hl2 := add_len n out (negs o.a ++ o.b)
                          generalize addE n e (negs o.a ++ o.b) = e2 at im
                          generalize addP n out (negs o.a ++ o.b) = out2 at im pe hO hl2
                          have hN : 0 ≤ (n : Int) ∧ (n : Int) ≤ k + 1 := by omega
                          have ff := G_ext (hx.bformula n e2 out2 (by omega) (fun c hc => by have := hO c hc; omega))
                          have sm := same_e hx ⟨n, out2⟩ ⟨n, out2⟩ (by simp only; omega) (fun c hc => by have := hO c hc; omega)
                          rw [decide_eq_true rfl, decide_eq_true rfl] at sm
                          simp only [Bool.and_self, Fm.av, bldO, List.map_nil] at ff sm
                          simp only [bldO, Fm.av, List.map_nil] at im pe
                          rw [List.map_append] at pe
                          have kd2 := eq_true kd2
                          simp (config := { maxSteps := 4000000 }) (disch := first | (intros; contradiction) | omega) only [go_sem, kd0, kd1, kd2, im]
                          generalize hL : loopA _ _ _ = L
                          apply range_upd hL (by simp (config := { maxSteps := 4000000 }) (disch := first | (intros; contradiction) | omega) only [go_sem] <;> rfl) o.a rowI (α := List Int) (fun rest k d => d ++ negs rest = negs o.a ∧ d.length = k) (fun k d => [(8, .grow 5 d.length (d.map rowI)), (9, .d (.int .i64 k))]) (fun k d => [(5, .grow d.length 1)]) [] (by simp (config := { maxSteps := 4000000 }) (disch := first | (intros; contradiction) | omega) only [go_sem] <;> rfl) ⟨rfl, rfl⟩ ?_ ?_
                          · rintro x rest k d ⟨j1, j2⟩ hlt2 hr2 hget2 hk2 _ next2 ih2
                            clear hL
                            have hroom : room ((d.map rowI).length + 1) 8 := by have := room_n8 (n := d.length + 1) (by omega); simpa only [List.length_map] using this
                            simp only [rowI] at hr2
                            simp (config := { maxSteps := 4000000 }) (disch := first | (intros; contradiction) | omega) only [go_sem, hlt2, hr2, hroom]
                            rw [wrap64 (x := (k : Int) + 1) (by omega) (by omega)]
                            exact ih2 (d ++ [IntKind.wrap .i64 (0 - x)]) _ ⟨by rw [← j1]; simp [negs], by simp; omega⟩ (by simp (config := { maxSteps := 4000000 }) (disch := first | (intros; contradiction) | omega) only [go_sem, List.map_append, List.length_append, List.length_cons, List.length_nil, List.map_cons, List.map_nil, rowI] <;> rfl)
                          · rintro k d ⟨j1, j2⟩ hlt2 hk2 next2
                            clear hL
                            have j1 : d ++ [] = negs o.a := j1
                            rw [List.append_nil] at j1
                            subst j1
                            have hroom : room (((negs o.a).map rowI).length + (o.b.map rowI).length) 8 := by have := room_n8 (n := (negs o.a).length + o.b.length) (by omega); simpa only [List.length_map] using this
                            have hfit : fits 1 (o.b.map rowI) := by intro row h; obtain ⟨x, _, rfl⟩ := List.mem_map.1 h; rfl
                            simp (config := { maxSteps := 4000000 }) (disch := first | (intros; contradiction) | omega) only [go_sem, hlt2, hroom, hfit, pe, bc0, im0, sm0, ff, sm, wrap64]
                            exact ih (n, e2, out2, true) _ ⟨by simp only; omega, by simp only; omega, by simp only; omega, hO, fun h => by cases h⟩ (by simp (config := { maxSteps := 4000000 }) (disch := first | (intros; contradiction) | omega) only [go_sem] <;> rfl)
                        · by_cases kd3 : o.kind = 3
                          · have bs := bsame_e hx n e out o.x o.y (by omega) (by omega) (by omega)
                            rw [bldC_add] at bs
                            have pe1 := put_e hx ⟨n, out⟩ [0 - o.x, o.y] (by simp only; omega) (by simp)
                            rw [put_add (by omega) (by omega)] at pe1
                            have hl1 := add_len n out [0 - o.x, o.y]
                            have hO1 : ∀ c, c ∈ addP n out [0 - o.x, o.y] → c.length ≤ 200 := add_mem i4 (by simp)
                            rw [show (bldA n e out [0 - o.x, o.y]).2 = addP n out [0 - o.x, o.y] from rfl] at bs
                            generalize (bldA n e out [0 - o.x, o.y]).1 = e1 at bs
                            generalize addP n out [0 - o.x, o.y] = out1 at bs pe1 hl1 hO1
                            have pe2 := put_e hx ⟨n, out1⟩ [o.x, 0 - o.y] (by simp only; omega) (by simp)
                            rw [put_add (by omega) (by omega)] at pe2
                            have hO : ∀ c, c ∈ addP n out1 [o.x, 0 - o.y] → c.length ≤ 200 := add_mem hO1 (by simp)
                            have hl2 := add_len n out1 [o.x, 0 - o.y]
                            generalize addE n e1 [o.x, 0 - o.y] = e2 at bs
                            generalize addP n out1 [o.x, 0 - o.y] = out2 at bs pe2 hO hl2
                            have hN : 0 ≤ (n : Int) ∧ (n : Int) ≤ k + 1 := by omega
                            have ff := G_ext (hx.bformula n e2 out2 (by omega) (fun c hc => by have := hO c hc; omega))
                            have sm := same_e hx ⟨n, out2⟩ ⟨n, out2⟩ (by simp only; omega) (fun c hc => by have := hO c hc; omega)
                            rw [decide_eq_true rfl, decide_eq_true rfl] at sm
                            simp only [Bool.and_self, Fm.av, bldO, List.map_nil] at ff sm
                            simp only [bldO, Fm.av, List.map_cons, List.map_nil, rowI] at bs pe1 pe2
                            have kd3 := eq_true kd3
                            simp (config := { maxSteps := 4000000 }) (disch := first | (intros; contradiction) | omega) only [go_sem, kd0, kd1, kd2, kd3, bs, pe1, pe2, bc0, im0, sm0, ff, sm, wrap64]
                            exact ih (n, e2, out2, true) _ ⟨by simp only; omega, by simp only; omega, by simp only; omega, hO, fun h => by cases h⟩ (by simp (config := { maxSteps := 4000000 }) (disch := first | (intros; contradiction) | omega) only [go_sem] <;> rfl)
                          · have hO : ∀ c : List Int, c ∈ (out : List (List Int)) → c.length ≤ 200 := i4
                            have hl2 : (out : List (List Int)).length ≤ 900 := by omega
                            have hN : 0 ≤ (n : Int) ∧ (n : Int) ≤ k + 1 := by omega
                            have ff := G_ext (hx.bformula n e out (by omega) (fun c hc => by have := hO c hc; omega))
                            have sm := same_e hx ⟨n, out⟩ ⟨n, out⟩ (by simp only; omega) (fun c hc => by have := hO c hc; omega)
                            rw [decide_eq_true rfl, decide_eq_true rfl] at sm
                            simp only [Bool.and_self, Fm.av, bldO, List.map_nil] at ff sm
                            simp (config := { maxSteps := 4000000 }) (disch := first | (intros; contradiction) | omega) only [go_sem, kd0, kd1, kd2, kd3, bc0, im0, sm0, ff, sm, wrap64]
                            exact ih (n, e, out, true) _ ⟨by simp only; omega, by simp only; omega, by simp only; omega, hO, i5⟩ (by simp (config := { maxSteps := 4000000 }) (disch := first | (intros; contradiction) | omega) only [go_sem] <;> rfl)
          | false =>
            have ho := i5 rfl
            subst ho
            rw [show wantV false [] = .grow 3 0 [] from rfl]
            simp only [List.map_nil]
            by_cases z1 : o.x < -1000000
            · simp (config := { maxSteps := 4000000 }) (disch := first | (intros; contradiction) | omega) only [go_sem, hlt, hr, hca, hcb, z1, ha]
            · by_cases z2 : 1000000 < o.x
              · simp (config := { maxSteps := 4000000 }) (disch := first | (intros; contradiction) | omega) only [go_sem, hlt, hr, hca, hcb, z1, z2, ha]
              · by_cases z3 : o.y < -1000000
                · simp (config := { maxSteps := 4000000 }) (disch := first | (intros; contradiction) | omega) only [go_sem, hlt, hr, hca, hcb, z1, z2, z3, ha]
                · by_cases z4 : 1000000 < o.y
                  · simp (config := { maxSteps := 4000000 }) (disch := first | (intros; contradiction) | omega) only [go_sem, hlt, hr, hca, hcb, z1, z2, z3, z4, ha]
                  · have sm0 := bsame0_e hx o.x o.y (by omega) (by omega)
                    simp (config := { maxSteps := 4000000 }) (disch := first | (intros; contradiction) | omega) only [go_sem, hlt, hr, hca, hcb, z1, z2, z3, z4]
                    by_cases kd0 : o.kind = 0
                    · have vv := var_e hx n e []
                      have hw : IntKind.wrap .i64 (n + 1) = n + 1 := wrap64 (by omega) (by omega)
                      rw [hw] at vv
                      have hO : ∀ c : List Int, c ∈ ([] : List (List Int)) → c.length ≤ 200 := i4
                      have hl2 : ([] : List (List Int)).length ≤ 900 := by omega
                      have hN : 0 ≤ ((n + 1) : Int) ∧ ((n + 1) : Int) ≤ k + 1 := by omega
                      have ff := G_ext (hx.bformula (n + 1) e [] (by omega) (fun c hc => by have := hO c hc; omega))
                      have sm := same_e hx ⟨(n + 1), []⟩ ⟨(n + 1), []⟩ (by simp only; omega) (fun c hc => by have := hO c hc; omega)
                      rw [decide_eq_true rfl, decide_eq_true rfl] at sm
                      simp only [Bool.and_self, Fm.av, bldO, List.map_nil] at ff sm
                      simp only [bldO, List.map_nil] at vv
                      have kd0 := eq_true kd0
                      simp (config := { maxSteps := 4000000 }) (disch := first | (intros; contradiction) | omega) only [go_sem, kd0, hw, vv, bc0, im0, sm0, ff, sm, wrap64, not_true_eq_false]
                      exact ih (n + 1, e, [], false) _ ⟨by simp only; omega, by simp only; omega, by simp only; omega, hO, i5⟩ (by simp (config := { maxSteps := 4000000 }) (disch := first | (intros; contradiction) | omega) only [go_sem] <;> rfl)
                    · by_cases kd1 : o.kind = 1
                      · have bc := G_ext (hx.bclause n e [] o.a (by omega) (by omega))
                        rw [bldC_add] at bc
                        have pe := put_e hx ⟨n, []⟩ o.a (by simp only; omega) (by omega)
                        rw [put_add (by omega) (by omega)] at pe
                        have hO : ∀ c, c ∈ addP n [] o.a → c.length ≤ 200 := add_mem i4 (by omega)
                        have hl2 := add_len n [] o.a
                        generalize addE n e o.a = e2 at bc
                        generalize addP n [] o.a = out2 at bc pe hO hl2
                        have hN : 0 ≤ (n : Int) ∧ (n : Int) ≤ k + 1 := by omega
                        have ff := G_ext (hx.bformula n e2 out2 (by omega) (fun c hc => by have := hO c hc; omega))
                        have sm := same_e hx ⟨n, out2⟩ ⟨n, out2⟩ (by simp only; omega) (fun c hc => by have := hO c hc; omega)
                        rw [decide_eq_true rfl, decide_eq_true rfl] at sm
                        simp only [Bool.and_self, Fm.av, bldO, List.map_nil] at ff sm
                        simp only [bldO, Fm.av, List.map_nil] at bc pe
                        have kd1 := eq_true kd1
                        simp (config := { maxSteps := 4000000 }) (disch := first | (intros; contradiction) | omega) only [go_sem, kd0, kd1, bc, pe, bc0, im0, sm0, ff, sm, wrap64]
                        exact ih (n, e2, out2, true) _ ⟨by simp only; omega, by simp only; omega, by simp only; omega, hO, fun h => by cases h⟩ (by simp (config := { maxSteps := 4000000 }) (disch := first | (intros; contradiction) | omega) only [go_sem] <;> rfl)
                      · by_cases kd2 : o.kind = 2
                        · have im := imply_e hx n e [] o.a o.b (by omega) (by omega) (by omega)
                          rw [bldC_add] at im
                          have hnl := len_negs o.a
                          have pe := put_e hx ⟨n, []⟩ (negs o.a ++ o.b) (by simp only; omega) (by rw [List.length_append]; omega)
                          rw [put_add (by omega) (by omega)] at pe
                          have hO : ∀ c, c ∈ addP n [] (negs o.a ++ o.b) → c.length ≤ 200 := add_mem i4 (by rw [List.length_append]; omega)
                          have hl2 := add_len n [] (negs o.a ++ o.b)
                          generalize addE n e (negs o.a ++ o.b) = e2 at im
                          generalize addP n [] (negs o.a ++ o.b) = out2 at im pe hO hl2
                          have hN : 0 ≤ (n : Int) ∧ (n : Int) ≤ k + 1 := by omega
                          have ff := G_ext (hx.bformula n e2 out2 (by omega) (fun c hc => by have := hO c hc; omega))
                          have sm := same_e hx ⟨n, out2⟩ ⟨n, out2⟩ (by simp only; omega) (fun c hc => by have := hO c hc; omega)
                          rw [decide_eq_true rfl, decide_eq_true rfl] at sm
                          simp only [Bool.and_self, Fm.av, bldO, List.map_nil] at ff sm
                          simp only [bldO, Fm.av, List.map_nil] at im pe
                          rw [List.map_append] at pe
                          have kd2 := eq_true kd2
                          simp (config := { maxSteps := 4000000 }) (disch := first | (intros; contradiction) | omega) only [go_sem, kd0, kd1, kd2, im]
                          generalize hL : loopA _ _ _ = L
                          apply range_upd hL (by simp (config := { maxSteps := 4000000 }) (disch := first | (intros; contradiction) | omega) only [go_sem] <;> rfl) o.a rowI (α := List Int) (fun rest k d => d ++ negs rest = negs o.a ∧ d.length = k) (fun k d => [(8, .grow 5 d.length (d.map rowI)), (9, .d (.int .i64 k))]) (fun k d => [(5, .grow d.length 1)]) [] (by simp (config := { maxSteps := 4000000 }) (disch := first | (intros; contradiction) | omega) only [go_sem] <;> rfl) ⟨rfl, rfl⟩ ?_ ?_
                          · rintro x rest k d ⟨j1, j2⟩ hlt2 hr2 hget2 hk2 _ next2 ih2
                            clear hL
                            have hroom : room ((d.map rowI).length + 1) 8 := by have := room_n8 (n := d.length + 1) (by omega); simpa only [List.length_map] using this
                            simp only [rowI] at hr2
                            simp (config := { maxSteps := 4000000 }) (disch := first | (intros; contradiction) | omega) only [go_sem, hlt2, hr2, hroom]
                            rw [wrap64 (x := (k : Int) + 1) (by omega) (by omega)]
                            exact ih2 (d ++ [IntKind.wrap .i64 (0 - x)]) _ ⟨by rw [← j1]; simp [negs], by simp; omega⟩ (by simp (config := { maxSteps := 4000000 }) (disch := first | (intros; contradiction) | omega) only [go_sem, List.map_append, List.length_append, List.length_cons, List.length_nil, List.map_cons, List.map_nil, rowI] <;> rfl)
                          · rintro k d ⟨j1, j2⟩ hlt2 hk2 next2
                            clear hL
                            have j1 : d ++ [] = negs o.a := j1
                            rw [List.append_nil] at j1
                            subst j1
                            have hroom : room (((negs o.a).map rowI).length + (o.b.map rowI).length) 8 := by have := room_n8 (n := (negs o.a).length + o.b.length) (by omega); simpa only [List.length_map] using this
                            have hfit : fits 1 (o.b.map rowI) := by intro row h; obtain ⟨x, _, rfl⟩ := List.mem_map.1 h; rfl
                            simp (config := { maxSteps := 4000000 }) (disch := first | (intros; contradiction) | omega) only [go_sem, hlt2, hroom, hfit, pe, bc0, im0, sm0, ff, sm, wrap64]
                            exact ih (n, e2, out2, true) _ ⟨by simp only; omega, by simp only; omega, by simp only; omega, hO, fun h => by cases h⟩ (by simp (config := { maxSteps := 4000000 }) (disch := first | (intros; contradiction) | omega) only [go_sem] <;> rfl)
                        · by_cases kd3 : o.kind = 3
                          · have bs := bsame_e hx n e [] o.x o.y (by omega) (by omega) (by omega)
                            rw [bldC_add] at bs
                            have pe1 := put_e hx ⟨n, []⟩ [0 - o.x, o.y] (by simp only; omega) (by simp)
                            rw [put_add (by omega) (by omega)] at pe1
                            have hl1 := add_len n [] [0 - o.x, o.y]
                            have hO1 : ∀ c, c ∈ addP n [] [0 - o.x, o.y] → c.length ≤ 200 := add_mem i4 (by simp)
                            rw [show (bldA n e [] [0 - o.x, o.y]).2 = addP n [] [0 - o.x, o.y] from rfl] at bs
                            generalize (bldA n e [] [0 - o.x, o.y]).1 = e1 at bs
                            generalize addP n [] [0 - o.x, o.y] = out1 at bs pe1 hl1 hO1
                            have pe2 := put_e hx ⟨n, out1⟩ [o.x, 0 - o.y] (by simp only; omega) (by simp)
                            rw [put_add (by omega) (by omega)] at pe2
                            have hO : ∀ c, c ∈ addP n out1 [o.x, 0 - o.y] → c.length ≤ 200 := add_mem hO1 (by simp)
                            have hl2 := add_len n out1 [o.x, 0 - o.y]
                            generalize addE n e1 [o.x, 0 - o.y] = e2 at bs
                            generalize addP n out1 [o.x, 0 - o.y] = out2 at bs pe2 hO hl2
                            have hN : 0 ≤ (n : Int) ∧ (n : Int) ≤ k + 1 := by omega
                            have ff := G_ext (hx.bformula n e2 out2 (by omega) (fun c hc => by have := hO c hc; omega))
                            have sm := same_e hx ⟨n, out2⟩ ⟨n, out2⟩ (by simp only; omega) (fun c hc => by have := hO c hc; omega)
                            rw [decide_eq_true rfl, decide_eq_true rfl] at sm
                            simp only [Bool.and_self, Fm.av, bldO, List.map_nil] at ff sm
                            simp only [bldO, Fm.av, List.map_cons, List.map_nil, rowI] at bs pe1 pe2
                            have kd3 := eq_true kd3
                            simp (config := { maxSteps := 4000000 }) (disch := first | (intros; contradiction) | omega) only [go_sem, kd0, kd1, kd2, kd3, bs, pe1, pe2, bc0, im0, sm0, ff, sm, wrap64]
                            exact ih (n, e2, out2, true) _ ⟨by simp only; omega, by simp only; omega, by simp only; omega, hO, fun h => by cases h⟩ (by simp (config := { maxSteps := 4000000 }) (disch := first | (intros; contradiction) | omega) only [go_sem] <;> rfl)
                          · have hO : ∀ c : List Int, c ∈ ([] : List (List Int)) → c.length ≤ 200 := i4
                            have hl2 : ([] : List (List Int)).length ≤ 900 := by omega
                            have hN : 0 ≤ (n : Int) ∧ (n : Int) ≤ k + 1 := by omega
                            have ff := G_ext (hx.bformula n e [] (by omega) (fun c hc => by have := hO c hc; omega))
                            have sm := same_e hx ⟨n, []⟩ ⟨n, []⟩ (by simp only; omega) (fun c hc => by have := hO c hc; omega)
                            rw [decide_eq_true rfl, decide_eq_true rfl] at sm
                            simp only [Bool.and_self, Fm.av, bldO, List.map_nil] at ff sm
                            simp (config := { maxSteps := 4000000 }) (disch := first | (intros; contradiction) | omega) only [go_sem, kd0, kd1, kd2, kd3, bc0, im0, sm0, ff, sm, wrap64]
                            exact ih (n, e, [], false) _ ⟨by simp only; omega, by simp only; omega, by simp only; omega, hO, i5⟩ (by simp (config := { maxSteps := 4000000 }) (disch := first | (intros; contradiction) | omega) only [go_sem] <;> rfl)
    · rintro k ⟨n, e, out, b⟩ ⟨i1, i2, i3, i4, i5⟩ hlt hk next
      clear hL
      have v0 := var0_e hx
      have f0 := G_ext hx.bformula0
      have sm := same_e hx ⟨0, []⟩ ⟨0, []⟩ (by simp) (by simp)
      rw [decide_eq_true rfl, decide_eq_true rfl] at sm
      simp only [Bool.and_self, Fm.av, List.map_nil] at sm f0
      simp (config := { maxSteps := 4000000 }) (disch := first | (intros; contradiction) | omega) only [go_sem, hlt, v0, f0, sm, ha]
end Go.Proofs.Ytdmambkajegldaa
