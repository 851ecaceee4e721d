/- solve.Fixed: what literals force. Conditions: none. -/
import Derived.Test.YtchedkjlhjfadaaSA
import Derived.Test.YtchedkjlhjfadaaS6
set_option linter.unusedSimpArgs false
set_option linter.unusedVariables false
namespace Go.Proofs.Ytchedkjlhjfadaa
open Go Go.Ab
variable {ext : Sem'}
/-- What is set, by variables. -/
def outP (val : Nat → Int) (l : List Nat) : List Int := (l.filter fun v => decide (val v ≠ 0)).map fun (v : Nat) => (v : Int) * val v
theorem outP_succ (val : Nat → Int) (k : Nat) : outP val (List.range (k + 1)) = outP val (List.range k) ++ if val k = 0 then [] else [(k : Int) * val k] := by
  unfold outP
  rw [List.range_succ, List.filter_append, List.map_append]
  by_cases h : val k = 0
  · simp [h]
  · simp [h]
theorem outP_len (val : Nat → Int) (l : List Nat) : (outP val l).length ≤ l.length := by unfold outP; rw [List.length_map]; exact List.length_filter_le _ _
def outN (n : Nat) (val : Nat → Int) : List Int := outP val (List.range (n + 1))
/-- What is said of literals that force. -/
def FixR (n : Nat) (fl : List (List Int)) (lits l : List Int) (b : Bool) : Prop :=
  (b = false ∧ l = [] ∧ (asm n [] lits = none ∨ ∃ q r', asm n [] lits = some q ∧ UP fl q r' ∧ ∃ c x, c ∈ fl ∧ lastZ (valR r') c 0 = (x, false))) ∨
  (b = true ∧ ∃ q r', asm n [] lits = some q ∧ UP fl q r' ∧ (∀ c, c ∈ fl → lastZ (valR r') c 0 = (0, true)) ∧ l = outN n (valR r'))
theorem rightL_of {f : Fm} (h : rightP f = true) : RightL f.n.toNat f.l ∧ 0 ≤ f.n ∧ f.n.toNat ≤ 100000 := by
  obtain ⟨h1, h2, h3⟩ := right_inv h
  refine ⟨fun c hc x hx => ?_, h1, by omega⟩
  have := lit_range h1 h2 (h3 c hc x hx)
  omega
set_option maxHeartbeats 2000000 in
theorem fixed_e (hx : TX ext) (f : Fm) (hs : Short f) (hr : rightP f = true) (lits : List Int) (hl : lits.length ≤ 1000000) :
    ∃ l b, G ext 27 [f.av, .d (.sl (lits.map rowI))] [] = some (.ret (.tuple [.d (.sl (l.map rowI)), .d (.bool b)]), []) ∧ FixR f.n.toNat f.l lits l b := by
  obtain ⟨hrl, h0, hn⟩ := rightL_of hr
  have hrt := right_e hx f hs
  rw [hr] at hrt
  obtain ⟨n, hnn⟩ : ∃ n : Nat, f.n = (n : Int) := ⟨f.n.toNat, by omega⟩
  obtain ⟨fn, fl⟩ := f
  simp only at hnn hrl h0 hn hs ⊢
  subst hnn
  rw [Int.toNat_natCast] at hrl hn ⊢
  have hfl : fl.length ≤ 1000000 ∧ ∀ c, c ∈ fl → c.length ≤ 1000000 := ⟨by have := hs.l; simp only at this; omega, fun c hc => by have := hs.c c hc; omega⟩
  have hnew := new_e hx n hn fl
  have hinit : TrOk [] [] := ⟨⟨rfl, fun _ => rfl⟩, rfl⟩
  have hv0 : valR [] = fun _ => 0 := rfl
  obtain ⟨q, e1, cs1, has, ht1, hto1, hle1, hq⟩ := assume_e n fl hx hn [] trivial 0 [] hinit 0 (by omega) lits hl
  have a1 := fun l => av_refs l
  have a2 := fun l f => av_ren f l
  have c1 := hto1.dc.r1
  have c2 := hto1.dc.r2
  simp only [trailO, srcO, hv0, List.length_nil, Fm.av] at hnew has hrt
  rw [G_body hx.clear rfl Try.func27 rfl Try.results27 hv_27 rfl]
  simp only [Fm.av]
  cases hasm : asm n [] lits with
  | none =>
    rw [hasm] at has
    simp only [Option.isSome_none] at has
    refine ⟨[], false, ?_, .inl ⟨rfl, rfl, .inl hasm⟩⟩
    simp (config := { maxSteps := 4000000 }) (disch := first | (intros; contradiction) | omega) only [go_sem, hrt, hnew, has, a1, a2, c1, c2, List.map_nil]
  | some q' =>
    have := hq q' hasm
    subst this
    rw [hasm] at has
    simp only [Option.isSome_some] at has
    have hql := trInv_length ht1
    obtain ⟨r, e2, cs2, b, hsp, hup, hto2, hb1, hb2⟩ := spread_e n fl hx hn hrl hfl q ht1 e1 cs1 hto1 (0 + ((q.length : Int) - ((0 : Nat) : Int))) (by omega)
    have d1 := hto2.dc.r1
    have d2 := hto2.dc.r2
    simp only [trailO, srcO] at hsp
    generalize 0 + ((q.length : Int) - ((0 : Nat) : Int)) = s1 at has hsp
    generalize s1 + ((r.length : Int) - q.length) = s2 at hsp
    cases b with
    | false =>
      obtain ⟨c, x, hcm, hlz⟩ := hb2 rfl
      refine ⟨[], false, ?_, .inl ⟨rfl, rfl, .inr ⟨q, r, hasm, hup, c, x, hcm, hlz⟩⟩⟩
      simp (config := { maxSteps := 4000000 }) (disch := first | (intros; contradiction) | omega) only [go_sem, hrt, hnew, has, hsp, a1, a2, c1, c2, d1, d2, List.map_nil]
    | true =>
      refine ⟨outN n (valR r), true, ?_, .inr ⟨rfl, q, r, hasm, hup, hb1 rfl, rfl⟩⟩
      simp (config := { maxSteps := 4000000 }) (disch := first | (intros; contradiction) | omega) only [go_sem, hrt, hnew, has, hsp, a1, a2, c1, c2, d1, d2, List.map_nil]
      generalize hL : loopA _ _ _ = L
      apply loop_upd hL (by simp (config := { maxSteps := 4000000 }) (disch := first | (intros; contradiction) | omega) only [go_sem, a1, a2, d1, d2] <;> rfl) (α := Nat × Nat) (fun s => s.1 ≤ n + 1) (fun s => n + 1 - s.1)
        (fun s => [(7, .grow 5 s.2 ((outP (valR r) (List.range s.1)).map rowI)), (8, .any), (9, .any), (29, .d (.int .i64 s.1))]) (fun s => [(5, .grow s.2 1)]) (0, 0) (by simp (config := { maxSteps := 4000000 }) (disch := first | (intros; contradiction) | omega) only [go_sem] <;> rfl) (by simp) ?_
      rintro ⟨k, e⟩ hk next ih
      simp only at hk ih ⊢
      clear hL
      have hol := outP_len (valR r) (List.range k)
      rw [List.length_range] at hol
      have hor : ((outP (valR r) (List.range k)).map rowI).length ≤ k := by rw [List.length_map]; exact hol
      have hsu := outP_succ (valR r) k
      by_cases hkn : k < n + 1
      · have hlt : (k : Int) < ((n + 1 : Nat) : Int) := by omega
        have hk0 : (0 : Int) ≤ (k : Int) ∧ (k : Int) < ((n + 1 : Nat) : Int) := by omega
        have hv := vals_at (n := n) (i := k) (valR r) (by omega)
        have h3 := lits3_valR r k
        have hw1 : IntKind.wrap .i64 ((k : Int) + 1) = ((k + 1 : Nat) : Int) := by rw [wrap64 (by omega) (by omega)]; omega
        have hroom : room (((outP (valR r) (List.range k)).map rowI).length + 1) 8 := room8 (by omega)
        by_cases hz : valR r k = 0
        · rw [if_pos hz, List.append_nil] at hsu
          generalize valR r k = v at hv h3 hz
          have hz := eq_true hz
          simp (config := { maxSteps := 4000000 }) (disch := first | (intros; contradiction) | omega) only [go_sem, hlt, hk0, hv, hz, hw1, Nat.mul_one, a1, a2, d1, d2]
          refine ih (k + 1, e) _ (by simp only; omega) (by simp only; omega) (by simp only; rw [hsu]; simp (config := { maxSteps := 4000000 }) (disch := first | (intros; contradiction) | omega) only [go_sem, a1, a2, d1, d2] <;> rfl)
        · rw [if_neg hz] at hsu
          have hzz : -100000 ≤ (k : Int) * valR r k ∧ (k : Int) * valR r k ≤ 100000 := by
            have : valR r k = 1 ∨ valR r k = -1 := by omega
            rcases this with h | h <;> rw [h] <;> omega
          have hw2 := wrap64 (x := (k : Int) * valR r k) (by omega) (by omega)
          generalize hv0 : valR r k = v at hv h3 hz hsu hw2 hzz
          generalize hzv : (k : Int) * v = z at hsu hw2 hzz
          simp (config := { maxSteps := 4000000 }) (disch := first | (intros; contradiction) | omega) only [go_sem, hlt, hk0, hv, hz, hw1, Nat.mul_one, hzv, hw2, hroom, a1, a2, d1, d2]
          refine ih (k + 1, e + 1) _ (by simp only; omega) (by simp only; omega) (by simp only; rw [hsu]; simp (config := { maxSteps := 4000000 }) (disch := first | (intros; contradiction) | omega) only [go_sem, a1, a2, d1, d2, List.map_append, List.map_cons, List.map_nil, rowI] <;> rfl)
      · have hlt : ¬ (k : Int) < ((n + 1 : Nat) : Int) := by omega
        have hkk : k = n + 1 := by omega
        subst hkk
        simp only [outN]
        simp (config := { maxSteps := 4000000 }) (disch := first | (intros; contradiction) | omega) only [go_sem, hlt, a1, a2, d1, d2]
        done
end Go.Proofs.Ytchedkjlhjfadaa
