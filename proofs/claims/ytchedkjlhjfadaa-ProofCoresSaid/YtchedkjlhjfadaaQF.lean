/- Law 16: the grower; Law 16: the grower, and a formula refuted. Conditions: none. -/
import Derived.Test.YtchedkjlhjfadaaQE
set_option linter.unusedSimpArgs false
set_option linter.unusedVariables false
namespace Go.Proofs.Ytchedkjlhjfadaa
open Go Go.Ab
variable {ext : Sem'}
/-- How many steps at most. -/
def Bn : Nat → Nat
  | 0 => 0
  | d + 1 => 2 * Bn d + d + 2
theorem Bn_ge : ∀ d, d ≤ Bn d
  | 0 => Nat.le_refl _
  | d + 1 => by have := Bn_ge d; simp only [Bn]; omega
theorem Bn_sub (d : Nat) : ∀ w, w ≤ d → w + Bn (d - w) ≤ Bn d
  | 0, _ => by simp
  | w + 1, h => by
    have := Bn_sub d w (by omega)
    have e : d - w = (d - (w + 1)) + 1 := by omega
    have h2 : Bn (d - w) = 2 * Bn (d - (w + 1)) + (d - (w + 1)) + 2 := by rw [e]; rfl
    omega
theorem ext_less {n : Nat} {fl : List (List Int)} {r : List (Int × Int)} (h : Go.Proofs.Ytchedkjlhjfadaa.ext n fl r = []) (p : Int × Int) : Go.Proofs.Ytchedkjlhjfadaa.ext n fl (p :: r) = [] := by
  unfold Go.Proofs.Ytchedkjlhjfadaa.ext at h ⊢
  rw [List.filter_eq_nil_iff] at h ⊢
  intro m hm hs
  simp only [satR, List.all_cons, Bool.and_eq_true] at hs
  exact h m hm hs.2
/-- What the grower answers, where there is no model. -/
def GrowOk (ext : Sem') (N : Nat) (fl : List (List Int)) (r : List (Int × Int)) (B : Nat) : Prop :=
  ∀ (out : List (List Int)) (st : List Ps), Gr N fl out st → out.length + B ≤ 9000 →
    ∃ (c : Nat) (e : List (List Int)) (s : List Ps), G ext 43 [.ptr 0 0] (grO N fl out st (valR r)) = some (.ret (.d (.int .i64 c)), grO N fl (out ++ e) (st ++ s) (valR r)) ∧ Gr N fl (out ++ e) (st ++ s) ∧ c < (fl ++ (out ++ e)).length ∧ FalseC (valR r) ((fl ++ (out ++ e)).getD c []) ∧ e.length ≤ B
set_option maxHeartbeats 8000000 in
theorem choose_e (hx : TX ext) (N : Nat) (hN : N ≤ 1000) (fl : List (List Int)) (hfl : fl.length ≤ 1000 ∧ ∀ c, c ∈ fl → c.length ≤ 100000) (hr : RightL N fl) (q : List (Int × Int)) (ht : TrInv N q) (hno : Go.Proofs.Ytchedkjlhjfadaa.ext N fl q = []) (hall : ∀ c, c ∈ fl → lastZ (valR q) c 0 = (0, true)) (B : Nat)
    (ih : ∀ x : Int, TrInv N ((x, 0) :: q) → GrowOk ext N fl ((x, 0) :: q) B) (out : List (List Int)) (st : List Ps) (hg : Gr N fl out st) (hb : out.length + (2 * B + 1) ≤ 9000) :
    ∃ (c : Nat) (e : List (List Int)) (s : List Ps), G ext 64 [.ptr 0 0] (grO N fl out st (valR q)) = some (.ret (.d (.int .i64 c)), grO N fl (out ++ e) (st ++ s) (valR q)) ∧ Gr N fl (out ++ e) (st ++ s) ∧ c < (fl ++ (out ++ e)).length ∧ FalseC (valR q) ((fl ++ (out ++ e)).getD c []) ∧ e.length ≤ 2 * B + 1 := by
  have a1 := fun l => av_refs l
  have a2 := fun l f => av_ren f l
  have hix := indexo_e hx ((List.range N).map fun i => valR q (i + 1)) 0 (valR q 0) (by rw [List.length_map, List.length_range]; omega)
  rw [← valsL_cons] at hix
  rw [List.length_map, List.length_range] at hix
  have hoz := openZ_lo (valR q) N
  have hoh := openZ_hi (valR q) N
  have hne : openZ (valR q) N ≠ 0 := fun h => by
    have := ext_full hr ht (openZ_none h) hall
    rw [hno] at this; cases this
  obtain ⟨v, hv⟩ : ∃ v : Nat, openZ (valR q) N = (v : Int) := ⟨(openZ (valR q) N).toNat, by omega⟩
  have hv0 : 0 < v := by omega
  obtain ⟨v1, v2, v3⟩ := openZ_some hv hv0
  have hw1 : IntKind.wrap .i64 (1 + indexZ ((List.range N).map fun i => valR q (i + 1)) 0) = (v : Int) := by
    have : 1 + indexZ ((List.range N).map fun i => valR q (i + 1)) 0 = (v : Int) := hv
    rw [this, wrap64 (by omega) (by omega)]
  have hone : (1 : Int) ≤ ((N + 1 : Nat) : Int) := by omega
  have hN1 : N + 1 - 1 = N := by omega
  have hvz : ¬ ((v : Int) = 0) := by omega
  have hwn : IntKind.wrap .i64 (0 - (v : Int)) = -(v : Int) := by rw [wrap64 (by omega) (by omega)]; omega
  have hwn2 : IntKind.wrap .i64 (0 - -(v : Int)) = (v : Int) := by rw [wrap64 (by omega) (by omega)]; omega
  have tz1 : truthZ (valR q) (-(v : Int)) = 0 := by unfold truthZ; rw [if_pos (by omega), show (- -(v : Int)).toNat = v by omega, v2]; rfl
  have tz2 : truthZ (valR q) (v : Int) = 0 := by unfold truthZ; rw [if_neg (by omega), Int.toNat_natCast, v2]
  have ti1 := (trInv_room ht (x := -(v : Int)) (by omega) (by omega) (by omega) tz1 0).1
  have ti2 := (trInv_room ht (x := (v : Int)) (by omega) (by omega) (by omega) tz2 0).1
  obtain ⟨c1, e1, s1, g1, g2, g3, g4, g5⟩ := ih (-(v : Int)) ti1 out st hg (by omega)
  have z1 := zeroV_valR (p := (-(v : Int), 0)) (r := q) ti1.2.2.2.1
  have z2 := zeroV_valR (p := ((v : Int), 0)) (r := q) ti2.2.2.2.1
  simp only at z1 z2
  have hse1 := gset1_e N fl out st (valR q) hx (by omega) (-(v : Int)) (by omega)
  have hse2 := gset0_e N fl (out ++ e1) (st ++ s1) (valR ((-(v : Int), 0) :: q)) hx (by omega) (-(v : Int)) (by omega)
  rw [z1] at hse2
  have f1 : FalseC (upd (valR q) (-(v : Int))) ((fl ++ (out ++ e1)).getD c1 []) := g4
  have hsh1 := g2.short hN hfl.2
  have hcc1 := hsh1 ((fl ++ (out ++ e1)).getD c1 []) (by rw [List.getD_eq_getElem?_getD, List.getElem?_eq_getElem g3]; exact List.getElem_mem _)
  have hco1 := containsv_e hx ((fl ++ (out ++ e1)).getD c1 []) (v : Int) (by omega)
  have hrow1 : ((fl ++ (out ++ e1)).map rowC)[c1]? = some (rowC ((fl ++ (out ++ e1)).getD c1 [])) := by
    rw [List.getElem?_map, List.getD_eq_getElem?_getD, List.getElem?_eq_getElem g3]; rfl
  have hup1 : upd (valR q) (-(v : Int)) = valR ((-(v : Int), 0) :: q) := rfl
  rw [hup1] at hse1
  have hc1p : (0 : Int) ≤ (c1 : Int) := by omega
  have hc1n : ¬ ((c1 : Int) = -1) := by omega
  have hc1l : (c1 : Int) < (((fl ++ (out ++ e1)).map rowC).length : Int) := by rw [List.length_map]; omega
  simp only [rowC] at hrow1
  cases hin1 : hasP ((fl ++ (out ++ e1)).getD c1 []) (v : Int) with
  | false =>
    rw [hin1] at hco1
    have hni : (v : Int) ∉ (fl ++ (out ++ e1)).getD c1 [] := fun h => by rw [has_iff.2 h] at hin1; cases hin1
    refine ⟨c1, e1, s1, ?_, g2, g3, fun y hy => ?_, by omega⟩
    · simp only [grO, List.length_append] at hse1 g1 hse2 hc1l ⊢
      rw [G_body hx.clear rfl Try.func64 rfl Try.results64 hv_64 rfl]
      simp (config := { maxSteps := 4000000 }) (disch := first | (intros; contradiction) | omega) only [go_sem, hone, hN1, hix, hw1, hvz, hwn, a1, a2]
      rw [loopA_eq]
      simp (config := { maxSteps := 4000000 }) (disch := first | (intros; contradiction) | omega) only [go_sem, hse1, g1, hse2, hwn2, hrow1, hco1, hc1p, hc1n, hc1l, a1, a2]
      done
    · rcases false_upd (by omega) (f1 y hy) with h | h
      · exact absurd (by rw [h, show - -(v : Int) = v by omega] at hy; exact hy) hni
      · exact h
  | true =>
    rw [hin1] at hco1
    have hi1 := has_iff.1 hin1
    obtain ⟨c2, e2, s2, j1, j2, j3, j4, j5⟩ := ih (v : Int) ti2 (out ++ e1) (st ++ s1) g2 (by rw [List.length_append]; omega)
    have hse3 := gset1_e N fl (out ++ e1) (st ++ s1) (valR q) hx (by omega) (v : Int) (by omega)
    have hse4 := gset0_e N fl (out ++ e1 ++ e2) (st ++ s1 ++ s2) (valR (((v : Int), 0) :: q)) hx (by omega) (v : Int) (by omega)
    rw [z2] at hse4
    have f2 : FalseC (upd (valR q) (v : Int)) ((fl ++ (out ++ e1 ++ e2)).getD c2 []) := j4
    have hsh2 := j2.short hN hfl.2
    have hcc2 := hsh2 ((fl ++ (out ++ e1 ++ e2)).getD c2 []) (by rw [List.getD_eq_getElem?_getD, List.getElem?_eq_getElem j3]; exact List.getElem_mem _)
    have hco2 := containsv_e hx ((fl ++ (out ++ e1 ++ e2)).getD c2 []) (-(v : Int)) (by omega)
    have hrow2 : ((fl ++ (out ++ e1 ++ e2)).map rowC)[c2]? = some (rowC ((fl ++ (out ++ e1 ++ e2)).getD c2 [])) := by
      rw [List.getElem?_map, List.getD_eq_getElem?_getD, List.getElem?_eq_getElem j3]; rfl
    have hup2 : upd (valR q) (v : Int) = valR (((v : Int), 0) :: q) := rfl
    rw [hup2] at hse3
    have hc2p : (0 : Int) ≤ (c2 : Int) := by omega
    have hc2n : ¬ ((c2 : Int) = -1) := by omega
    have hc2l : (c2 : Int) < (((fl ++ (out ++ e1 ++ e2)).map rowC).length : Int) := by rw [List.length_map]; omega
    simp only [rowC] at hrow2
    have hsame : (fl ++ (out ++ e1 ++ e2)).getD c1 [] = (fl ++ (out ++ e1)).getD c1 [] := by
      rw [show fl ++ (out ++ e1 ++ e2) = (fl ++ (out ++ e1)) ++ e2 by simp]
      exact getD_app1 g3
    have hlen3 : (fl ++ (out ++ e1 ++ e2)).length = (fl ++ (out ++ e1)).length + e2.length := by simp; omega
    have hlo : (out ++ e1 ++ e2).length ≤ 9000 := by simp; omega
    cases hin2 : hasP ((fl ++ (out ++ e1 ++ e2)).getD c2 []) (-(v : Int)) with
    | false =>
      rw [hin2] at hco2
      have hni : -(v : Int) ∉ (fl ++ (out ++ e1 ++ e2)).getD c2 [] := fun h => by rw [has_iff.2 h] at hin2; cases hin2
      refine ⟨c2, e1 ++ e2, s1 ++ s2, ?_, by rw [← List.append_assoc, ← List.append_assoc]; exact j2, by rw [← List.append_assoc out]; exact j3, fun y hy => ?_, by rw [List.length_append]; omega⟩
      · rw [← List.append_assoc, ← List.append_assoc]
        simp only [grO, List.length_append] at hse1 g1 hse2 hse3 j1 hse4 hc1l hc2l ⊢
        rw [G_body hx.clear rfl Try.func64 rfl Try.results64 hv_64 rfl]
        simp (config := { maxSteps := 4000000 }) (disch := first | (intros; contradiction) | omega) only [go_sem, hone, hN1, hix, hw1, hvz, hwn, a1, a2]
        rw [loopA_eq]
        simp (config := { maxSteps := 4000000 }) (disch := first | (intros; contradiction) | omega) only [go_sem, hse1, g1, hse2, hwn2, hrow1, hco1, hc1p, hc1n, hc1l, a1, a2]
        rw [loopA_eq]
        have hwi : IntKind.wrap .i64 1 = 1 := by decide
        simp (config := { maxSteps := 4000000 }) (disch := first | (intros; contradiction) | omega) only [go_sem, hse3, j1, hse4, hwn, hrow2, hco2, hc2p, hc2n, hc2l, a1, a2, hwi]
        done
      · rw [← List.append_assoc out] at hy
        rcases false_upd (by omega) (f2 y hy) with h | h
        · exact absurd (by rw [h] at hy; exact hy) hni
        · exact h
    | true =>
      rw [hin2] at hco2
      have hi2 := has_iff.1 hin2
      have hcl1 : c1 < (fl ++ (out ++ e1 ++ e2)).length := by omega
      obtain ⟨s, d, r1, r2, r3, r4, r5, r6⟩ := choose_step (val := valR q) (v := (v : Int)) (all := fl ++ (out ++ e1 ++ e2)) (c := c1) (d := c2) (by omega) (by omega) (j2.at_ hcl1) (j2.at_ j3) (by rw [hsame]; exact hi1) hi2 (by rw [hsame]; exact f1) f2
      have hre := gresolve_e N fl (out ++ e1 ++ e2) (st ++ s1 ++ s2) (valR q) hx (by omega) c1 c2 (v : Int) s d hcl1 j3 (by omega) hsh2 (by simp only [List.length_append] at hlo ⊢; omega) (by have := j2.len; omega) r1
      have hgr := j2.step hcl1 j3 (s := s) (d := d) (by rw [r5]; exact ⟨rfl, rfl⟩) (by rw [r5]; simp only; omega) r3 r4 (by rw [r5]; exact r6)
      have ea : out ++ (e1 ++ e2 ++ [d]) = out ++ e1 ++ e2 ++ [d] := by simp
      have es : st ++ (s1 ++ s2 ++ [s]) = st ++ s1 ++ s2 ++ [s] := by simp
      refine ⟨(fl ++ (out ++ e1 ++ e2)).length, e1 ++ e2 ++ [d], s1 ++ s2 ++ [s], ?_, by rw [ea, es]; exact hgr, by rw [ea]; simp, ?_, by simp; omega⟩
      · rw [ea, es]
        simp only [grO, List.length_append, List.length_cons, List.length_nil, Nat.zero_add] at hse1 g1 hse2 hse3 j1 hse4 hre hc1l hc2l ⊢
        rw [G_body hx.clear rfl Try.func64 rfl Try.results64 hv_64 rfl]
        simp (config := { maxSteps := 4000000 }) (disch := first | (intros; contradiction) | omega) only [go_sem, hone, hN1, hix, hw1, hvz, hwn, a1, a2]
        rw [loopA_eq]
        simp (config := { maxSteps := 4000000 }) (disch := first | (intros; contradiction) | omega) only [go_sem, hse1, g1, hse2, hwn2, hrow1, hco1, hc1p, hc1n, hc1l, a1, a2]
        rw [loopA_eq]
        have hwi : IntKind.wrap .i64 1 = 1 := by decide
        simp (config := { maxSteps := 4000000 }) (disch := first | (intros; contradiction) | omega) only [go_sem, hse3, j1, hse4, hwn, hrow2, hco2, hc2p, hc2n, hc2l, a1, a2, hwi]
        rw [loopA_eq]
        have hwi2 : IntKind.wrap .i64 2 = 2 := by decide
        simp (config := { maxSteps := 4000000 }) (disch := first | (intros; contradiction) | omega) only [go_sem, hwi2, hre, hc2n, a1, a2]
        done
      · have hnew : (fl ++ (out ++ (e1 ++ e2 ++ [d]))).getD (fl ++ (out ++ e1 ++ e2)).length [] = d := by
          rw [show fl ++ (out ++ (e1 ++ e2 ++ [d])) = (fl ++ (out ++ e1 ++ e2)) ++ [d] by simp, show (fl ++ (out ++ e1 ++ e2)).length = (fl ++ (out ++ e1 ++ e2)).length + 0 from rfl, getD_app2]; rfl
        rw [hnew]
        exact r2
end Go.Proofs.Ytchedkjlhjfadaa
namespace Go.Proofs.Ytchedkjlhjfadaa
open Go Go.Ab
variable {ext : Sem'}
set_option maxHeartbeats 4000000 in
theorem grow_all (hx : TX ext) (N : Nat) (hN : N ≤ 1000) (fl : List (List Int)) (hfl : fl.length ≤ 1000 ∧ ∀ c, c ∈ fl → c.length ≤ 100000) (hr : RightL N fl) : ∀ (d : Nat) (r : List (Int × Int)), N - r.length = d → TrInv N r → Go.Proofs.Ytchedkjlhjfadaa.ext N fl r = [] → GrowOk ext N fl r (Bn d) := by
  intro d
  induction d using Nat.strongRecOn with
  | ind d ih =>
    intro r hd ht hno out st hg hb
    have a1 := fun l => av_refs l
    have a2 := fun l f => av_ren f l
    obtain ⟨w, q, wrong, hsp, hw, hcase⟩ := gspread_e N fl out st hx (by omega) hr ⟨by omega, hfl.2⟩ r ht (by omega)
    have hup := hw.up.ok hr ht
    have hql := trInv_length hup.inv
    have hwq := hw.len
    have hnq : Go.Proofs.Ytchedkjlhjfadaa.ext N fl q = [] := hup.ext.trans hno
    have hBw : w.length ≤ Bn d := by have := Bn_ge d; omega
    rcases hcase with ⟨rfl, hall⟩ | ⟨i, ci, x, rfl, hi, hlz⟩
    · have hne : openZ (valR q) N ≠ 0 := fun h => by
        have := ext_full hr hup.inv (openZ_none h) hall
        rw [hnq] at this; cases this
      have hoz := openZ_lo (valR q) N
      obtain ⟨v, hv⟩ : ∃ v : Nat, openZ (valR q) N = (v : Int) := ⟨(openZ (valR q) N).toNat, by omega⟩
      obtain ⟨v1, v2, v3⟩ := openZ_some hv (by omega)
      have tz2 : truthZ (valR q) (v : Int) = 0 := by unfold truthZ; rw [if_neg (by omega), Int.toNat_natCast, v2]
      have hqN := (trInv_room hup.inv (x := (v : Int)) (by omega) (by omega) (by omega) tz2 0).2
      have hsub := Bn_sub d w.length (by omega)
      have hdd : d - w.length = (N - (q.length + 1)) + 1 := by omega
      have hB2 : Bn (d - w.length) = 2 * Bn (N - (q.length + 1)) + (N - (q.length + 1)) + 2 := by rw [hdd]; rfl
      obtain ⟨c1, e1, s1, g1, g2, g3, g4, g5⟩ := choose_e hx N hN fl hfl hr q hup.inv hnq hall (Bn (N - (q.length + 1)))
        (fun x hti => ih (N - (q.length + 1)) (by omega) ((x, 0) :: q) (by simp) hti (ext_less hnq _)) out st hg (by omega)
      obtain ⟨c2, e2, s2, j1, j2, j3, j4, j5⟩ := clean_e hx N hN fl hfl hr r ht w q hw (out ++ e1) (st ++ s1) c1 g2 g3 g4 (by rw [List.length_append]; omega)
      refine ⟨c2, e1 ++ e2, s1 ++ s2, ?_, by rw [← List.append_assoc, ← List.append_assoc]; exact j2, by rw [← List.append_assoc out]; exact j3, by rw [← List.append_assoc out]; exact j4, by rw [List.length_append]; omega⟩
      rw [← List.append_assoc, ← List.append_assoc]
      simp only [grO, List.length_append] at hsp g1 j1 ⊢
      rw [G_body hx.clear rfl Try.func43 rfl Try.results43 hv_43 rfl]
      simp (config := { maxSteps := 4000000 }) (disch := first | (intros; contradiction) | omega) only [go_sem, hsp, g1, j1, a1, a2]
      done
    · have hmem := List.mem_of_getElem? hi
      have hifl : i < fl.length := (List.getElem?_eq_some_iff.1 hi).1
      have hgi : (fl ++ out).getD i [] = ci := by rw [getD_app1 hifl, List.getD_eq_getElem?_getD, hi]; rfl
      obtain ⟨c2, e2, s2, j1, j2, j3, j4, j5⟩ := clean_e hx N hN fl hfl hr r ht w q hw out st i hg (by rw [List.length_append]; omega) (by rw [hgi]; exact conflict_spec hr (lits3_valR q) hmem hlz) (by omega)
      refine ⟨c2, e2, s2, ?_, j2, j3, j4, by omega⟩
      have hni : ¬ ((i : Int) = -1) := by omega
      simp only [grO, List.length_append] at hsp j1 ⊢
      rw [G_body hx.clear rfl Try.func43 rfl Try.results43 hv_43 rfl]
      simp (config := { maxSteps := 4000000 }) (disch := first | (intros; contradiction) | omega) only [go_sem, hsp, j1, a1, a2, hni]
      done
theorem Bn10 {d : Nat} (h : d ≤ 10) : Bn d ≤ 4000 := by
  have : ∀ d, d ≤ 10 → Bn d ≤ 4000 := by decide
  exact this d h
set_option maxHeartbeats 2000000 in
/-- A formula without a model is refuted: its steps are a proof. -/
theorem refute_e (hx : TXP ext) (n : Nat) (hn : n ≤ 10) (fl : List (List Int)) (hs : Short ⟨n, fl⟩) (hr : rightP ⟨n, fl⟩ = true) (he : Go.Proofs.Ytchedkjlhjfadaa.ext n fl [] = []) :
    ∃ (st : List Ps), G ext 12 [Fm.av ⟨n, fl⟩] [] = some (.ret (.tuple [.d (.sl (st.map rowS)), .d (.bool true)]), []) ∧ st.length ≤ 4000 ∧ (∀ s, s ∈ st → s.on ≤ 100000) ∧ ∃ out c, Gr n fl out st ∧ c < (fl ++ out).length ∧ (fl ++ out).getD c [] = [] := by
  have hrt := right_e hx.toTX ⟨n, fl⟩ hs
  rw [hr] at hrt
  obtain ⟨hrl, _, _⟩ := rightL_of hr
  rw [Int.toNat_natCast] at hrl
  have hso := solve_e hx.toTX n hn fl hs hr
  rw [he] at hso
  have hfs : fl.length ≤ 1000 := hs.l
  have hcl := G_ext (hx.clone2 fl (by omega))
  have hfl : (fl.map rowC).length = fl.length := List.length_map _
  have hw := wrap64 (x := (n : Int) + 1) (by omega) (by omega)
  have hneg : ¬ ((n : Int) + 1) < 0 := by omega
  obtain ⟨m, hm⟩ : ∃ m, m = n + 1 := ⟨_, rfl⟩
  have htn : ((n : Int) + 1).toNat = m := by omega
  have hz : (List.replicate m [AV.d (.int .i64 0)]).flatten = (valsL n fun _ => 0).map avI := by rw [hm]; exact zeros_av _
  have hroom : room m 8 := room_n8 (by omega)
  have hge : (0 : Int) ≤ (n : Int) + 1 := by omega
  have hre : (n : Int) + 1 ≤ (n : Int) + 1 := Int.le_refl _
  have a1 := fun l => av_refs l
  have a2 := fun l f => av_ren f l
  have hg0 : Gr n fl [] [] := ⟨rfl, by rw [List.append_nil]; exact hrl, (fun c h => by cases h), (fun s h => by cases h)⟩
  have hB := Bn10 (d := n) hn
  obtain ⟨c, e, s, g1, g2, g3, g4, g5⟩ := grow_all hx.toTX n (by omega) fl ⟨by omega, fun c hc => by have := hs.c c hc; omega⟩ hrl n [] (by simp) trivial he [] [] hg0 (by simp; omega)
  simp only [List.nil_append] at g1 g2 g3 g4
  refine ⟨s, ?_, by have := g2.len; omega, g2.on, e, c, g2, g3, ?_⟩
  · have hv0 : valR [] = fun _ => 0 := rfl
    simp only [grO, hv0, List.append_nil, List.length_nil, List.map_nil, hfl, ← hm] at g1
    simp only [Fm.av, List.headD_nil, List.map_nil, ne_eq, not_true_eq_false, decide_false] at hrt hso ⊢
    have hx := hx.toTX
    rw [G_body hx.clear rfl Try.func12 rfl Try.results12 hv_12 rfl]
    simp (config := { maxSteps := 4000000 }) (disch := first | (intros; contradiction) | omega) only [go_sem, hrt, hso, hcl, hw, hneg, htn, hz, hroom, hge, hre, a1, a2, hfl, g1]
    done
  · cases hcc : (fl ++ e).getD c [] with
    | nil => rfl
    | cons y t =>
      rw [hcc] at g4
      have := g4 y (by simp)
      have hz : truthZ (valR []) y = 0 := by unfold truthZ valR; split <;> rfl
      omega
theorem refute0_e (hx : TXP ext) (f : Fm) (hs : Short f) (hr : rightP f = false) : G ext 12 [f.av] [] = some (.ret (.tuple [.d (.sl []), .d (.bool false)]), []) := by
  have hrt := right_e hx.toTX f hs
  rw [hr] at hrt
  simp only [Fm.av] at hrt ⊢
  have hx := hx.toTX
  rw [G_body hx.clear rfl Try.func12 rfl Try.results12 hv_12 rfl]
  simp (config := { maxSteps := 4000000 }) (disch := first | (intros; contradiction) | omega) only [go_sem, hrt]
theorem refute1_e (hx : TXP ext) (n : Nat) (hn : n ≤ 10) (fl : List (List Int)) (hs : Short ⟨n, fl⟩) (hr : rightP ⟨n, fl⟩ = true) (he : Go.Proofs.Ytchedkjlhjfadaa.ext n fl [] ≠ []) : G ext 12 [Fm.av ⟨n, fl⟩] [] = some (.ret (.tuple [.d (.sl []), .d (.bool false)]), []) := by
  have hrt := right_e hx.toTX ⟨n, fl⟩ hs
  rw [hr] at hrt
  have hso := solve_e hx.toTX n hn fl hs hr
  rw [decide_eq_true he] at hso
  generalize ((Go.Proofs.Ytchedkjlhjfadaa.ext n fl []).headD []) = m at hso
  simp only [Fm.av] at hrt hso ⊢
  have hx := hx.toTX
  rw [G_body hx.clear rfl Try.func12 rfl Try.results12 hv_12 rfl]
  simp (config := { maxSteps := 4000000 }) (disch := first | (intros; contradiction) | omega) only [go_sem, hrt, hso]
end Go.Proofs.Ytchedkjlhjfadaa
