/- Law 16: the grower's clean; Law 16: a clause without what was forced. Conditions: none. -/
import Derived.Test.YtchedkjlhjfadaaQD
import Derived.Test.YtchedkjlhjfadaaQC
set_option linter.unusedSimpArgs false
set_option linter.unusedVariables false
namespace Go.Proofs.Ytchedkjlhjfadaa
open Go Go.Ab
variable {ext : Sem'}
/-- Reasons with their places, the last one first. -/
def bkR (l : List (Int × Int)) : Nat → List ((Int × Int) × Nat)
  | 0 => []
  | i + 1 => (l.getD i (0, 0), i) :: bkR l i
def yR (p : (Int × Int) × Nat) : List AV := [.d (.int .i64 p.2), .agg [.d (.int .i64 p.1.1), .d (.int .i64 p.1.2)]]
theorem bwdr_e (hx : TX ext) (l : List (Int × Int)) : G ext 91 [.d (.sl (l.map rowR))] [] = some (.ret (.fn 99 [] [.ptr 0 0]), [.cells [.d (.sl (l.map rowR))]]) := by
  rw [G_body hx.clear rfl Try.func91 rfl Try.results91 hv_91 rfl]
  simp (config := { maxSteps := 4000000 }) (disch := first | (intros; contradiction) | omega) only [go_sem]
theorem bwdrG_e (hx : TX ext) (l : List (Int × Int)) (hl : l.length ≤ 100000) : G ext 99 [.yld 1, .ptr 0 0] [.cells [.d (.sl (l.map rowR))], .gen []] = some (.ret (.tuple []), [.cells [.d (.sl (l.map rowR))], .gen ((bkR l l.length).map yR)]) := by
  have hll : (l.map rowR).length = l.length := List.length_map _
  have hw0 : IntKind.wrap .i64 (((l.map rowR).length : Int) - 1) = (l.length : Int) - 1 := by rw [wrap64 (by omega) (by omega)]; omega
  rw [G_body hx.clear rfl Try.func99 rfl Try.results99 hv_99 rfl]
  simp (config := { maxSteps := 4000000 }) (disch := first | (intros; contradiction) | omega) only [go_sem, hw0]
  generalize hL : loopA _ _ _ = L
  apply loop_upd hL (by simp (config := { maxSteps := 4000000 }) (disch := first | (intros; contradiction) | omega) only [go_sem] <;> rfl) (α := Nat × List ((Int × Int) × Nat)) (fun s => s.1 ≤ l.length ∧ s.2 ++ bkR l s.1 = bkR l l.length) (fun s => s.1) (fun s => [(3, .d (.int .i64 ((s.1 : Int) - 1)))]) (fun s => [(1, .gen (s.2.map yR))]) (l.length, []) (by simp (config := { maxSteps := 4000000 }) (disch := first | (intros; contradiction) | omega) only [go_sem] <;> rfl) ⟨Nat.le_refl _, rfl⟩ ?_
  rintro ⟨i, acc⟩ ⟨i1, i2⟩ next ih
  simp only at i1 i2 ih ⊢
  clear hL
  cases i with
  | zero =>
    have hneg : ¬ (0 : Int) ≤ ((0 : Nat) : Int) - 1 := by omega
    rw [← i2]
    simp only [bkR, List.append_nil]
    simp (config := { maxSteps := 4000000 }) (disch := first | (intros; contradiction) | omega) only [go_sem, hneg]
    done
  | succ i =>
    have hpos : (0 : Int) ≤ ((i + 1 : Nat) : Int) - 1 := by omega
    have hi : ((i + 1 : Nat) : Int) - 1 = (i : Int) := by omega
    have hrow : (l.map rowR)[i]? = some (rowR (l.getD i (0, 0))) := by
      rw [List.getElem?_map, List.getD_eq_getElem?_getD, List.getElem?_eq_getElem (by omega)]; rfl
    have hw1 : IntKind.wrap .i64 ((i : Int) - 1) = (i : Int) - 1 := by rw [wrap64 (by omega) (by omega)]
    generalize hsd : l.getD i (0, 0) = s at hrow
    simp only [rowR] at hrow
    rw [hi] at hpos ⊢
    simp (config := { maxSteps := 4000000 }) (disch := first | (intros; contradiction) | omega) only [go_sem, hpos, hrow, hw1, hi]
    refine ih (i, acc ++ [(s, i)]) _ ⟨by simp only; omega, ?_⟩ (by simp only; omega) (by simp (config := { maxSteps := 4000000 }) (disch := first | (intros; contradiction) | omega) only [go_sem, hw1, List.map_append, List.map_cons, List.map_nil, yR] <;> rfl)
    rw [← i2]
    simp only [bkR, hsd, List.append_assoc, List.singleton_append]
theorem bwdrL_e (hx : TX ext) (l : List (Int × Int)) (hl : l.length ≤ 100000) : G ext 99 [.yld 1, .ptr 0 0] [.cells [.d (.sl (l.map rowR))], .log 0 0 ((bkR l l.length).map yR)] = some (.ret (.tuple []), [.cells [.d (.sl (l.map rowR))], .log 0 l.length []]) := by
  have hll : (l.map rowR).length = l.length := List.length_map _
  have hw0 : IntKind.wrap .i64 (((l.map rowR).length : Int) - 1) = (l.length : Int) - 1 := by rw [wrap64 (by omega) (by omega)]; omega
  rw [G_body hx.clear rfl Try.func99 rfl Try.results99 hv_99 rfl]
  simp (config := { maxSteps := 4000000 }) (disch := first | (intros; contradiction) | omega) only [go_sem, hw0]
  generalize hL : loopA _ _ _ = L
  apply loop_upd hL (by simp (config := { maxSteps := 4000000 }) (disch := first | (intros; contradiction) | omega) only [go_sem] <;> rfl) (α := Nat × Nat) (fun s => s.1 + s.2 = l.length) (fun s => s.1) (fun s => [(3, .d (.int .i64 ((s.1 : Int) - 1)))]) (fun s => [(1, .log 0 s.2 ((bkR l s.1).map yR))]) (l.length, 0) (by simp (config := { maxSteps := 4000000 }) (disch := first | (intros; contradiction) | omega) only [go_sem] <;> rfl) (by simp) ?_
  rintro ⟨i, k⟩ i1 next ih
  simp only at i1 ih ⊢
  clear hL
  cases i with
  | zero =>
    have hneg : ¬ (0 : Int) ≤ ((0 : Nat) : Int) - 1 := by omega
    have hk : k = l.length := by omega
    rw [← hk]
    simp only [bkR, List.map_nil]
    simp (config := { maxSteps := 4000000 }) (disch := first | (intros; contradiction) | omega) only [go_sem, hneg]
    done
  | succ i =>
    have hpos : (0 : Int) ≤ ((i + 1 : Nat) : Int) - 1 := by omega
    have hi : ((i + 1 : Nat) : Int) - 1 = (i : Int) := by omega
    have hrow : (l.map rowR)[i]? = some (rowR (l.getD i (0, 0))) := by
      rw [List.getElem?_map, List.getD_eq_getElem?_getD, List.getElem?_eq_getElem (by omega)]; rfl
    have hw1 : IntKind.wrap .i64 ((i : Int) - 1) = (i : Int) - 1 := by rw [wrap64 (by omega) (by omega)]
    have hbk : (bkR l (i + 1)).map yR = yR (l.getD i (0, 0), i) :: (bkR l i).map yR := rfl
    rw [hbk]
    generalize hsd : l.getD i (0, 0) = s at hrow
    simp only [rowR] at hrow
    simp only [yR]
    rw [hi] at hpos ⊢
    have hk1 : decide (k + 1 ≠ 0) = true := by simp
    simp (config := { maxSteps := 4000000 }) (disch := first | (intros; contradiction) | omega) only [go_sem, hpos, hrow, hw1, hi, hk1]
    exact ih (i, k + 1) _ (by simp only; omega) (by simp only; omega) (by simp (config := { maxSteps := 4000000 }) (disch := first | (intros; contradiction) | omega) only [go_sem, hw1] <;> rfl)
/-- A range over a function: the rounds, one by one, each from what is left. -/
theorem rfFold_rel {σ α : Type} {f : List AV → List AObj → RC} {n np : Nat} (h : σ → List AObj) (y : α → List AV) (I : List α → σ → Prop) (hs : ∀ x rest s, I (x :: rest) s → (y x).length = np ∧ ∃ s', I rest s' ∧ ∃ st, f (y x) (h s) = .go st ∧ keepH n st.H = some (h s')) : ∀ (xs : List α) (k : Nat) (s : σ), I xs s →
    ∃ s', I [] s' ∧ rfFold f n np k (xs.map y) (h s) = .done (h s')
  | [], k, s, hI => ⟨s, hI, rfl⟩
  | x :: xs, k, s, hI => by
    obtain ⟨h2, s1, h1, st, h3, h4⟩ := hs x xs s hI
    obtain ⟨s', g1, g2⟩ := rfFold_rel h y I hs xs (k + 1) s1 h1
    refine ⟨s', g1, ?_⟩
    simp only [List.map_cons, rfFold, if_pos h2, h3, rfK, h4, rfNext]
    exact g2
/-- A proof that grows: its steps are right, its clauses are of so many variables. -/
structure Gr (N : Nat) (fl out : List (List Int)) (st : List Ps) : Prop where
  cls : clsP fl [] st = (out, true)
  right : RightL N (fl ++ out)
  dup : ∀ c, c ∈ out → c.Nodup
  on : ∀ s, s ∈ st → s.on ≤ 100000
theorem Gr.at_ {N : Nat} {fl out : List (List Int)} {st : List Ps} (h : Gr N fl out st) {i : Nat} (hi : i < (fl ++ out).length) : RightC N ((fl ++ out).getD i []) := by
  rw [List.getD_eq_getElem?_getD, List.getElem?_eq_getElem hi]
  exact h.right _ (List.getElem_mem _)
theorem Gr.len {N : Nat} {fl out : List (List Int)} {st : List Ps} (h : Gr N fl out st) : out.length = st.length := (cls_gen.1 h.cls).elim fun o2 h2 => by rw [h2.1]; simpa using h2.2.1
theorem Gr.step {N : Nat} {fl out : List (List Int)} {st : List Ps} (h : Gr N fl out st) {s : Ps} {d : List Int} {a b : Nat} (ha : a < (fl ++ out).length) (hb : b < (fl ++ out).length) (hs : s.a = (a : Int) ∧ s.b = (b : Int)) (hon : s.on ≤ 100000) (hd : RightC N d) (hn : d.Nodup) (hr : resolveP ((fl ++ out).getD a []) ((fl ++ out).getD b []) s.on = some d) : Gr N fl (out ++ [d]) (st ++ [s]) := by
  refine ⟨?_, ?_, ?_, ?_⟩
  · rw [clsP_app h.cls]
    simp only [clsP]
    rw [if_neg (by omega), show s.a.toNat = a by omega, show s.b.toNat = b by omega, hr]
  · intro c hc
    rw [← List.append_assoc] at hc
    rcases List.mem_append.1 hc with h1 | h1
    · exact h.right c h1
    · simp at h1; subst h1; exact hd
  · intro c hc
    rcases List.mem_append.1 hc with h1 | h1
    · exact h.dup c h1
    · simp at h1; subst h1; exact hn
  · intro t ht
    rcases List.mem_append.1 ht with h1 | h1
    · exact h.on t h1
    · simp at h1; subst h1; exact hon
end Go.Proofs.Ytchedkjlhjfadaa
namespace Go.Proofs.Ytchedkjlhjfadaa
open Go Go.Ab
variable {ext : Sem'}
theorem WU.pre {fl : List (List Int)} {r w q : List (Int × Int)} (h : WU fl r w q) : w ≠ [] → ∃ w' q' i c x, w = w' ++ [(x, ((i : Nat) : Int))] ∧ q = (x, 0) :: q' ∧ WU fl r w' q' ∧ fl[i]? = some c ∧ lastZ (valR q') c 0 = (x, true) ∧ x ≠ 0 := by
  intro hw
  cases h with
  | nil => exact absurd rfl hw
  | snoc h1 h2 h3 h4 => exact ⟨_, _, _, _, _, rfl, rfl, h1, h2, h3, h4⟩
theorem bkR_app (w t : List (Int × Int)) : ∀ k, k ≤ w.length → bkR (w ++ t) k = bkR w k
  | 0, _ => rfl
  | k + 1, h => by
    simp only [bkR]
    rw [bkR_app w t k (by omega), List.getD_eq_getElem?_getD, List.getD_eq_getElem?_getD, List.getElem?_append_left (by omega)]
theorem bkR_snoc (w : List (Int × Int)) (p : Int × Int) : bkR (w ++ [p]) (w ++ [p]).length = (p, w.length) :: bkR w w.length := by
  rw [show (w ++ [p]).length = w.length + 1 by simp]
  simp only [bkR]
  rw [bkR_app w [p] w.length (Nat.le_refl _), List.getD_eq_getElem?_getD, List.getElem?_append_right (Nat.le_refl _)]
  simp
theorem Gr.short {N : Nat} {fl out : List (List Int)} {st : List Ps} (h : Gr N fl out st) (hN : N ≤ 1000) (hf : ∀ c, c ∈ fl → c.length ≤ 100000) : ∀ c, c ∈ fl ++ out → c.length ≤ 100000 := fun c hc => by
  rcases List.mem_append.1 hc with h1 | h1
  · exact hf c h1
  · have := nodup_sub (u := (List.range (2 * N + 1)).map fun (i : Nat) => (i : Int) - N) (h.dup c h1) (fun x hx => by
      have := h.right c hc x hx
      exact List.mem_map.2 ⟨(x + N).toNat, List.mem_range.2 (by omega), by omega⟩)
    rw [List.length_map, List.length_range] at this
    omega
/-- Where the grower's clean is. -/
structure Cs where
  c : Nat
  o : List (List Int)
  s : List Ps
  q : List (Int × Int)
set_option maxHeartbeats 4000000 in
theorem clean_e (hx : TX ext) (N : Nat) (hN : N ≤ 1000) (fl : List (List Int)) (hfl : fl.length ≤ 1000 ∧ ∀ c, c ∈ fl → c.length ≤ 100000) (hr : RightL N fl) (r : List (Int × Int)) (ht : TrInv N r) (w q : List (Int × Int)) (hw : WU fl r w q) (out : List (List Int)) (st : List Ps) (c : Nat) (hg : Gr N fl out st) (hc : c < (fl ++ out).length) (hf : FalseC (valR q) ((fl ++ out).getD c [])) (hb : out.length + w.length ≤ 10000) :
    ∃ (c' : Nat) (e : List (List Int)) (s : List Ps), G ext 65 [.ptr 0 0, .d (.int .i64 c), .d (.sl (w.map rowR))] (grO N fl out st (valR q)) = some (.ret (.d (.int .i64 c')), grO N fl (out ++ e) (st ++ s) (valR r)) ∧ Gr N fl (out ++ e) (st ++ s) ∧ c' < (fl ++ (out ++ e)).length ∧ FalseC (valR r) ((fl ++ (out ++ e)).getD c' []) ∧ e.length ≤ w.length := by
  have a1 := fun l => av_refs l
  have a2 := fun l f => av_ren f l
  have hwq := hw.len
  have hup := hw.up.ok hr ht
  have hql := trInv_length hup.inv
  have hb1 := bwdr_e hx w
  have hb2 := bwdrG_e hx w (by omega)
  have hb3 := bwdrL_e hx w (by omega)
  rw [G_body hx.clear rfl Try.func65 rfl Try.results65 hv_65 rfl]
  unfold grO
  simp (config := { maxSteps := 4000000 }) (disch := first | (intros; contradiction) | omega) only [go_sem, hb1, hb2, a1, a2]
  generalize hR : rfFold _ _ _ _ _ _ = R
  obtain ⟨z, ⟨w0, e', t', k1, k2, k3, k4, k5, k6, k7, k8⟩, hz⟩ : ∃ z : Cs, (∃ w0 e t, WU fl r w0 z.q ∧ ([] : List ((Int × Int) × Nat)) = bkR w0 w0.length ∧ Gr N fl z.o z.s ∧ z.c < (fl ++ z.o).length ∧ FalseC (valR z.q) ((fl ++ z.o).getD z.c []) ∧ e.length + w0.length ≤ w.length ∧ z.o = out ++ e ∧ z.s = st ++ t) ∧
      R = .done (grO N fl z.o z.s (valR z.q) ++ [.cells [.ptr 0 0], .cells [.d (.int .i64 z.c)], .no]) := by
    rw [← hR]
    refine rfFold_rel (σ := Cs) (fun z => grO N fl z.o z.s (valR z.q) ++ [.cells [.ptr 0 0], .cells [.d (.int .i64 z.c)], .no]) yR
      (fun rest z => ∃ w0 e t, WU fl r w0 z.q ∧ rest = bkR w0 w0.length ∧ Gr N fl z.o z.s ∧ z.c < (fl ++ z.o).length ∧ FalseC (valR z.q) ((fl ++ z.o).getD z.c []) ∧ e.length + w0.length ≤ w.length ∧ z.o = out ++ e ∧ z.s = st ++ t) ?_ (bkR w w.length) 0 ⟨c, out, st, q⟩ ⟨w, [], [], hw, rfl, hg, hc, hf, by simp, by simp, by simp⟩
    rintro p rest ⟨c0, o0, s0, q0⟩ ⟨w0, e0, t0, j1, j2, j3, j4, j5, j6, j7, j8⟩
    simp only at j1 j2 j3 j4 j5 j6 j7 j8 ⊢
    clear hR
    refine ⟨rfl, ?_⟩
    cases hw0 : w0 with
    | nil => rw [hw0] at j2; cases j2
    | cons a b =>
    obtain ⟨w1, q1, i, ci, x, g1, g2, g3, g4, g5, g6⟩ := j1.pre (by rw [hw0]; simp)
    clear hw0
    subst g1
    rw [bkR_snoc] at j2
    simp only [List.cons.injEq] at j2
    obtain ⟨rfl, rfl⟩ := j2
    subst g2
    have hmem := List.mem_of_getElem? g4
    have hifl : i < fl.length := (List.getElem?_eq_some_iff.1 g4).1
    have hup1 := g3.up.ok hr ht
    have hcr := hr ci hmem
    obtain ⟨s1, s2⟩ := single_spec hr (lits3_valR q1) hmem g5 g6
    have hxr := hcr x s1
    have hfo := forced_lit hr hmem g5 g6
    have hz0 := zeroV_valR (p := (x, 0)) (r := q1) (trInv_room hup1.inv g6 hxr.2.1 hxr.2.2 hfo.2.1 0).1.2.2.2.1
    simp only at hz0
    have hlen0 : o0.length = out.length + e0.length := by rw [j7, List.length_append]
    have hlen1 : (fl ++ o0).length = fl.length + o0.length := List.length_append
    simp only [List.length_append, List.length_cons, List.length_nil] at j6
    have hgi : (fl ++ o0).getD i [] = ci := by rw [getD_app1 hifl, List.getD_eq_getElem?_getD, g4]; rfl
    have hfx : FalseC (upd (valR q1) x) ((fl ++ o0).getD c0 []) := j5
    have hcs := clean_step (val := valR q1) (x := x) (all := fl ++ o0) (c := c0) (i := i) (by omega) g6 (j3.at_ j4) (by rw [hgi]; exact hcr) (by rw [hgi]; exact s1) (by rw [hgi]; exact s2) hfx
    have hall := j3.short hN hfl.2
    have hrow : ((fl ++ o0).map rowC)[c0]? = some (rowC ((fl ++ o0).getD c0 [])) := by
      rw [List.getElem?_map, List.getD_eq_getElem?_getD, List.getElem?_eq_getElem j4]; rfl
    have hcc := hall ((fl ++ o0).getD c0 []) (by rw [List.getD_eq_getElem?_getD, List.getElem?_eq_getElem j4]; exact List.getElem_mem _)
    have hco := containsv_e hx ((fl ++ o0).getD c0 []) (-x) (by omega)
    have hne : ¬ ((c0 : Int) = -1) := by omega
    have hc0p : (0 : Int) ≤ (c0 : Int) := by omega
    have hc0l : (c0 : Int) < (((fl ++ o0).map rowC).length : Int) := by rw [List.length_map]; omega
    have hwn : IntKind.wrap .i64 (0 - x) = -x := by rw [wrap64 (by omega) (by omega)]; omega
    have hse := fun o s => gset0_e N fl o s (valR ((x, 0) :: q1)) hx (by omega) x (by omega)
    rw [hz0] at hse
    simp only [rowC] at hrow
    by_cases hin : -x ∈ (fl ++ o0).getD c0 []
    · rw [has_iff.2 hin] at hco
      obtain ⟨s', d, r1, r2, r3, r4, r5, r6⟩ := hcs.2 hin
      have hmx : (if x < -x then -x else x) ≤ 100000 := by split <;> omega
      obtain ⟨mv, hmv⟩ : ∃ mv, (if x < -x then -x else x) = mv := ⟨_, rfl⟩
      rw [hmv] at r1 r5 hmx
      have hre := gresolve_e N fl o0 s0 (valR ((x, 0) :: q1)) hx (by omega) c0 i mv s' d j4 (by omega) (by omega) hall (by omega) (by have := j3.len; omega) r1
      have hab : (s'.a.toNat < (fl ++ o0).length ∧ s'.b.toNat < (fl ++ o0).length ∧ s'.a = (s'.a.toNat : Int) ∧ s'.b = (s'.b.toNat : Int)) ∧ s'.on = mv := by
        rcases r5 with rfl | rfl
        · exact ⟨⟨by simp only [Int.toNat_natCast]; exact j4, by simp only [Int.toNat_natCast]; omega, by simp, by simp⟩, rfl⟩
        · exact ⟨⟨by simp only [Int.toNat_natCast]; omega, by simp only [Int.toNat_natCast]; exact j4, by simp, by simp⟩, rfl⟩
      have hgr := j3.step hab.1.1 hab.1.2.1 hab.1.2.2 (by rw [hab.2]; exact hmx) r3 r4 r6
      have hnew : (fl ++ (o0 ++ [d])).getD (fl ++ o0).length [] = d := by
        rw [← List.append_assoc, show (fl ++ o0).length = (fl ++ o0).length + 0 from rfl, getD_app2]; rfl
      have hse := hse (o0 ++ [d]) (s0 ++ [s'])
      refine ⟨⟨(fl ++ o0).length, o0 ++ [d], s0 ++ [s'], q1⟩, ⟨w1, e0 ++ [d], t0 ++ [s'], g3, rfl, hgr, by simp, by simp only; rw [hnew]; exact r2, by simp; omega, by rw [j7]; simp, by rw [j8]; simp⟩, ?_⟩
      · simp only [yR, grO, List.cons_append, List.nil_append, List.length_append, List.length_cons, List.length_nil, Nat.zero_add] at hse hre ⊢
        refine ⟨_, by simp (config := { maxSteps := 4000000 }) (disch := first | (intros; contradiction) | omega) only [go_sem, hrow, hco, hne, hc0p, hc0l, hwn, hmv, hre, hse, a1, a2] <;> rfl, ?_⟩
        simp (config := { maxSteps := 4000000 }) (disch := first | (intros; contradiction) | omega) only [go_sem, a1, a2]
        done
    · have hco2 : hasP ((fl ++ o0).getD c0 []) (-x) = false := by
        cases h : hasP ((fl ++ o0).getD c0 []) (-x) with
        | false => rfl
        | true => exact absurd (has_iff.1 h) hin
      rw [hco2] at hco
      have hse := hse o0 s0
      refine ⟨⟨c0, o0, s0, q1⟩, ⟨w1, e0, t0, g3, rfl, j3, j4, hcs.1 hin, by omega, j7, j8⟩, ?_⟩
      · simp only [yR, grO, List.cons_append, List.nil_append] at hse ⊢
        refine ⟨_, by simp (config := { maxSteps := 4000000 }) (disch := first | (intros; contradiction) | omega) only [go_sem, hrow, hco, hne, hc0p, hc0l, hwn, hse, a1, a2] <;> rfl, ?_⟩
        simp (config := { maxSteps := 4000000 }) (disch := first | (intros; contradiction) | omega) only [go_sem, a1, a2]
        done
  have hw00 : w0 = [] := by
    cases w0 with
    | nil => rfl
    | cons a b => simp only [List.length_cons, bkR] at k2; cases k2
  subst hw00
  have hq : z.q = r := by
    obtain ⟨zc, zo, zs, zq⟩ := z
    simp only at k1 ⊢
    generalize hnil : ([] : List (Int × Int)) = w0 at k1
    cases k1 with
    | nil => rfl
    | snoc => simp at hnil
  rw [hz]
  clear hR
  obtain ⟨zc, zo, zs, zq⟩ := z
  simp only at k3 k4 k5 k7 k8 hq ⊢
  subst hq
  subst k7
  subst k8
  refine ⟨zc, e', t', ?_, k3, by simpa using k4, k5, by simpa using k6⟩
  simp only [grO, List.cons_append, List.nil_append]
  simp (config := { maxSteps := 4000000 }) (disch := first | (intros; contradiction) | omega) only [go_sem, hb3, a1, a2, List.isEmpty_nil]
  done
end Go.Proofs.Ytchedkjlhjfadaa
