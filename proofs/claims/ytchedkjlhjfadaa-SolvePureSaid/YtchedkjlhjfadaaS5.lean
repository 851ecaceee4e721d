/- solve's search: what is assumed, what comes next. Conditions: none. -/
import Derived.Test.YtchedkjlhjfadaaS4
set_option linter.unusedSimpArgs false
set_option linter.unusedVariables false
namespace Go.Proofs.Ytchedkjlhjfadaa
open Go Go.Ab
variable {ext : Sem'}
/-- What assuming leaves; none: it cannot be. -/
def asm (n : Nat) : List (Int × Int) → List Int → Option (List (Int × Int))
  | r, [] => some r
  | r, x :: l => if x = 0 ∨ (n : Int) < x ∨ x < 0 - (n : Int) ∨ truthZ (valR r) x < 0 then none else if truthZ (valR r) x = 0 then asm n ((x, 0) :: r) l else asm n r l
theorem asm_none {n : Nat} {r : List (Int × Int)} {x : Int} {l : List Int} (h : x = 0 ∨ (n : Int) < x ∨ x < 0 - (n : Int) ∨ truthZ (valR r) x < 0) : asm n r (x :: l) = none := by rw [asm, if_pos h]
section
variable (n : Nat) (fl : List (List Int))
set_option maxHeartbeats 2000000 in
theorem assume_e (hx : TX ext) (hn : n ≤ 100000) (r : List (Int × Int)) (ht : TrInv n r) (e : Nat) (cs : List AV) (hc : TrOk r cs) (steps : Int) (hs : 0 ≤ steps ∧ steps ≤ 100000000000000) (l : List Int) (hl : l.length ≤ 1000000) :
    ∃ r' e' cs', G ext 52 [.ptr 0 0, .d (.sl (l.map rowI))] (trailO n fl r e cs steps) = some (.ret (.d (.bool (asm n r l).isSome)), trailO n fl r' e' cs' (steps + (r'.length - r.length))) ∧
      TrInv n r' ∧ TrOk r' cs' ∧ r.length ≤ r'.length ∧ ∀ q, asm n r l = some q → r' = q := by
  have hll : (l.map rowI).length = l.length := List.length_map _
  have a1 := fun l => av_refs l
  have a2 := fun l f => av_ren f l
  have c1 := hc.dc.r1
  have hw0 : IntKind.wrap .i64 (0 - (n : Int)) = 0 - (n : Int) := wrap64 (by omega) (by omega)
  rw [G_body hx.clear rfl Try.func52 rfl Try.results52 hv_52 rfl]
  unfold trailO srcO
  simp (config := { maxSteps := 4000000 }) (disch := first | (intros; contradiction) | omega) only [go_sem]
  generalize hL : loopA _ _ _ = L
  apply range_upd hL (by simp (config := { maxSteps := 4000000 }) (disch := first | (intros; contradiction) | omega) only [go_sem, a1, c1] <;> rfl) l rowI (α := List (Int × Int) × Nat × List AV) (fun rest k s => TrInv n s.1 ∧ TrOk s.1 s.2.2 ∧ r.length ≤ s.1.length ∧ asm n r l = asm n s.1 rest)
    (fun k s => [(6, .any), (9, .d (.int .i64 k))])
    (fun k s => [(0, .cells [.d (.int .i64 n), .d (.sl (fl.map rowC)), .own 1 0 (n + 1) 1, .stk 2 s.2.1 s.1.length, .d (.int .i64 (steps + (s.1.length - r.length)))]), (1, .cells ((valsL n (valR s.1)).map avI)), (2, .stk s.2.1 2 s.2.2)]) (r, e, cs) (by simp only [Int.sub_self, Int.add_zero]; simp (config := { maxSteps := 4000000 }) (disch := first | (intros; contradiction) | omega) only [go_sem] <;> rfl) ⟨ht, hc, Nat.le_refl _, rfl⟩ ?_ ?_
  · rintro x rest k ⟨q, f, ds⟩ ⟨i1, i2, i3, i4⟩ hlt hrow hget hk _ next ih
    simp only at i1 i2 i3 i4 ih ⊢
    clear hL
    have hql := trInv_length i1
    have d1 := i2.dc.r1
    have d2 := i2.dc.r2
    simp only [rowI] at hrow
    by_cases x0 : x = 0
    · have hnone := asm_none (n := n) (r := q) (l := rest) (.inl x0)
      rw [i4, hnone]
      refine ⟨q, f, ds, ?_, i1, i2, i3, fun _ h => by cases h⟩
      have x0 := eq_true x0
      simp only [Option.isSome_none]
      simp (config := { maxSteps := 4000000 }) (disch := first | (intros; contradiction) | omega) only [go_sem, hlt, hrow, x0, a1, d1]
    · by_cases x1 : (n : Int) < x
      · have hnone := asm_none (n := n) (r := q) (l := rest) (.inr (.inl x1))
        rw [i4, hnone]
        refine ⟨q, f, ds, ?_, i1, i2, i3, fun _ h => by cases h⟩
        simp only [Option.isSome_none]
        simp (config := { maxSteps := 4000000 }) (disch := first | (intros; contradiction) | omega) only [go_sem, hlt, hrow, x0, x1, a1, d1]
      · by_cases x2 : x < 0 - (n : Int)
        · have hnone := asm_none (n := n) (r := q) (l := rest) (.inr (.inr (.inl x2)))
          rw [i4, hnone]
          refine ⟨q, f, ds, ?_, i1, i2, i3, fun _ h => by cases h⟩
          simp only [Option.isSome_none]
          simp (config := { maxSteps := 4000000 }) (disch := first | (intros; contradiction) | omega) only [go_sem, hlt, hrow, x0, x1, hw0, x2, a1, d1]
        · have hte := truth_e n fl (valR q) f q.length ds (steps + (q.length - r.length)) hx hn (lits3_valR q) i2.dc x (by omega)
          simp only [srcO] at hte
          rcases truthZ_range (lits3_valR q) x with tv | tv | tv
          · rw [tv] at hte
            have hnone := asm_none (n := n) (r := q) (l := rest) (.inr (.inr (.inr (show truthZ (valR q) x < 0 by omega))))
            rw [i4, hnone]
            refine ⟨q, f, ds, ?_, i1, i2, i3, fun _ h => by cases h⟩
            simp only [Option.isSome_none]
            simp (config := { maxSteps := 4000000 }) (disch := first | (intros; contradiction) | omega) only [go_sem, hlt, hrow, x0, x1, hw0, x2, hte, a1, a2, d1, d2]
          · rw [tv] at hte
            have hstep : asm n q (x :: rest) = asm n ((x, 0) :: q) rest := by rw [asm, if_neg (by omega), if_pos tv]
            obtain ⟨r1, r2⟩ := trInv_room i1 x0 (by omega) (by omega) tv 0
            have hpu := putT_e n fl hx hn i2 hql f x 0 (by omega) (steps + (q.length - r.length)) (by omega)
            have hst : steps + ((q.length : Int) - r.length) + 1 = steps + (((q.length + 1 : Nat) : Int) - r.length) := by omega
            rw [hst] at hpu
            simp only [trailO, srcO, List.length_cons] at hpu
            have hput := i2.put x 0
            generalize ds.take (q.length * 2) ++ trC [(x, 0)] = ds' at hpu hput
            have p1 := hput.dc.r1
            have p2 := hput.dc.r2
            simp (config := { maxSteps := 4000000 }) (disch := first | (intros; contradiction) | omega) only [go_sem, hlt, hrow, x0, x1, hw0, x2, hte, hpu, a1, a2, d1, d2, p1, p2, wrap64]
            exact ih ((x, 0) :: q, f + 1, ds') _ ⟨r1, hput, by simp only [List.length_cons]; omega, i4.trans hstep⟩ (by simp only [List.length_cons]; simp (config := { maxSteps := 4000000 }) (disch := first | (intros; contradiction) | omega) only [go_sem, a1, a2, p1, p2] <;> rfl)
          · rw [tv] at hte
            have hstep : asm n q (x :: rest) = asm n q rest := by rw [asm, if_neg (by omega), if_neg (by omega)]
            simp (config := { maxSteps := 4000000 }) (disch := first | (intros; contradiction) | omega) only [go_sem, hlt, hrow, x0, x1, hw0, x2, hte, a1, a2, d1, d2, wrap64]
            exact ih (q, f, ds) _ ⟨i1, i2, i3, i4.trans hstep⟩ (by simp (config := { maxSteps := 4000000 }) (disch := first | (intros; contradiction) | omega) only [go_sem, a1, a2, d1, d2] <;> rfl)
  · rintro k ⟨q, f, ds⟩ ⟨i1, i2, i3, i4⟩ hlt hk next
    simp only at i1 i2 i3 i4 ⊢
    clear hL
    have d1 := i2.dc.r1
    have i5 : asm n r l = some q := i4
    rw [i5]
    refine ⟨q, f, ds, ?_, i1, i2, i3, fun _ h => by cases h; rfl⟩
    simp only [Option.isSome_some]
    simp (config := { maxSteps := 4000000 }) (disch := first | (intros; contradiction) | omega) only [go_sem, hlt, a1, d1]
theorem UP.sum {n : Nat} {ls : List (List Int)} (hr : RightL n ls) {r r' : List (Int × Int)} (h : UP ls r r') (ht : TrInv n r) : mu n r' + (r'.length - r.length) ≤ mu n r := by
  induction h with
  | refl r => simp
  | step hc hl h0 h ih =>
    rename_i r r' c x
    obtain ⟨h1, h2, h3⟩ := forced_lit hr hc hl h0
    obtain ⟨g1, g2, g3⟩ := hr c hc x h1
    obtain ⟨i1, i2⟩ := trInv_room ht h0 g2 g3 h2 0
    have := ih i1
    have := mu_put i2 x 0
    have := (h.ok hr i1).len
    simp at *
    omega
theorem valR_some {r : List (Int × Int)} : ∀ {i : Nat}, valR r i ≠ 0 → i ∈ r.map fun p => p.1.natAbs := by
  induction r with
  | nil => intro i h; exact absurd rfl h
  | cons p r ih =>
    intro i h
    simp only [valR, upd] at h
    simp only [List.map_cons, List.mem_cons]
    by_cases e : i = p.1.natAbs
    · exact .inl e
    · rw [if_neg e] at h; exact .inr (ih h)
theorem trInv_full {n : Nat} {r : List (Int × Int)} (ht : TrInv n r) (h : ∀ i, i < n → valR r (i + 1) ≠ 0) : n ≤ r.length := by
  have hnd : ((List.range n).map (· + 1)).Nodup := List.Pairwise.map _ (fun a b hab => by omega) (List.nodup_range (n := n))
  have := nodup_le (l := (List.range n).map (· + 1)) (l' := r.map fun p => p.1.natAbs) hnd (fun i hi => by
    obtain ⟨k, hk, rfl⟩ := List.mem_map.1 hi
    exact valR_some (h k (by simpa using hk)))
  simpa using this
/-- What comes next. -/
def NextR (n : Nat) (fl : List (List Int)) (r : List (Int × Int)) (b : Bool) (r' : List (Int × Int)) : Prop :=
  match b with
  | true => TrInv n r' ∧ Go.Proofs.Ytchedkjlhjfadaa.ext n fl r' = [modelL (valR r') n] ∧ Go.Proofs.Ytchedkjlhjfadaa.ext n fl r ++ rest n fl r = modelL (valR r') n :: rest n fl r'
  | false => Go.Proofs.Ytchedkjlhjfadaa.ext n fl r ++ rest n fl r = []
set_option maxHeartbeats 2000000 in
theorem next_e (hx : TX ext) (hn : n ≤ 100000) (hr : RightL n fl) (hfl : fl.length ≤ 1000000 ∧ ∀ c, c ∈ fl → c.length ≤ 1000000) (r : List (Int × Int)) (ht : TrInv n r) (e : Nat) (cs : List AV) (hc : TrOk r cs) (steps : Int) (hs : 0 ≤ steps ∧ steps + mu n r ≤ 10000000000000) :
    ∃ b r' e' cs' s', G ext 78 [.ptr 0 0] (trailO n fl r e cs steps) = some (.ret (.d (.bool b)), trailO n fl r' e' cs' s') ∧ NextR n fl r b r' ∧ TrOk r' cs' ∧ steps ≤ s' ∧ s' ≤ steps + mu n r ∧ (b = true → r.length < n → steps < s') := by
  have a1 := fun l => av_refs l
  have a2 := fun l f => av_ren f l
  have c1 := hc.dc.r1
  rw [G_body hx.clear rfl Try.func78 rfl Try.results78 hv_78 rfl]
  unfold trailO srcO
  simp (config := { maxSteps := 4000000 }) (disch := first | (intros; contradiction) | omega) only [go_sem]
  generalize hL : loopA _ _ _ = L
  apply loop_upd hL (by simp (config := { maxSteps := 4000000 }) (disch := first | (intros; contradiction) | omega) only [go_sem, a1, c1] <;> rfl) (α := List (Int × Int) × Nat × List AV × Int) (fun s => TrInv n s.1 ∧ TrOk s.1 s.2.2.1 ∧ Go.Proofs.Ytchedkjlhjfadaa.ext n fl s.1 ++ rest n fl s.1 = Go.Proofs.Ytchedkjlhjfadaa.ext n fl r ++ rest n fl r ∧ steps ≤ s.2.2.2 ∧ s.2.2.2 + mu n s.1 ≤ steps + mu n r ∧ (s.1 = r ∨ steps < s.2.2.2)) (fun s => mu n s.1)
    (fun s => [(3, .any)])
    (fun s => [(0, .cells [.d (.int .i64 n), .d (.sl (fl.map rowC)), .own 1 0 (n + 1) 1, .stk 2 s.2.1 s.1.length, .d (.int .i64 s.2.2.2)]), (1, .cells ((valsL n (valR s.1)).map avI)), (2, .stk s.2.1 2 s.2.2.1)]) (r, e, cs, steps) (by simp (config := { maxSteps := 4000000 }) (disch := first | (intros; contradiction) | omega) only [go_sem] <;> rfl) ⟨ht, hc, rfl, Int.le_refl _, Int.le_refl _, .inl rfl⟩ ?_
  rintro ⟨p, f, ds, st⟩ ⟨i1, i2, i3, i4, i5, i6⟩ next ih
  simp only at i1 i2 i3 i4 i5 i6 ih ⊢
  clear hL
  have hpl := trInv_length i1
  have d1 := i2.dc.r1
  have d2 := i2.dc.r2
  obtain ⟨q, f2, ds2, b, hsp, hup, htq, hb1, hb2⟩ := spread_e n fl hx hn hr hfl p i1 f ds i2 st (by omega)
  have hok := hup.ok hr i1
  have hsum := hup.sum hr i1
  have hlen := hok.len
  have hql := trInv_length hok.inv
  have q1 := htq.dc.r1
  have q2 := htq.dc.r2
  have hsame : Go.Proofs.Ytchedkjlhjfadaa.ext n fl q ++ rest n fl q = Go.Proofs.Ytchedkjlhjfadaa.ext n fl r ++ rest n fl r := by rw [hok.ext, hok.rest, i3]
  generalize hs2 : st + ((q.length : Int) - p.length) = s2 at hsp
  have hs3 : s2 + mu n q ≤ steps + mu n r := by omega
  have hs4 : steps ≤ s2 := by omega
  have hs5 : q = r ∨ steps < s2 := by
    rcases i6 with h | h
    · subst h
      cases hup with
      | refl => exact .inl rfl
      | step hc' hl' h0' h' =>
        right
        have := (h'.ok hr (by
          obtain ⟨k1, k2, k3⟩ := forced_lit hr hc' hl' h0'
          obtain ⟨g1, g2, g3⟩ := hr _ hc' _ k1
          exact (trInv_room i1 h0' g2 g3 k2 0).1)).len
        simp only [List.length_cons] at this
        omega
    · right; omega
  simp only [trailO, srcO] at hsp
  cases b with
  | false =>
    obtain ⟨c, x, hcm, hlz⟩ := hb2 rfl
    have hex := ext_conflict hr hcm hlz
    obtain ⟨out, hba, hbr⟩ := back_e n fl hx hn q hok.inv f2 ds2 htq s2 (by omega)
    simp only [trailO, srcO] at hba
    rcases back_spec fl hok.inv with ⟨g1, g2⟩ | ⟨r', y, g1, g2, g3, g4, g5, g6, g7⟩
    · rw [g1] at hbr
      obtain ⟨e', cs', hdc, rfl⟩ := hbr
      have p1 := hdc.r1
      have p2 := hdc.r2
      simp only [trailO, srcO] at hba
      refine ⟨false, [], e', cs', s2, ?_, ?_, ⟨hdc, rfl⟩, hs4, by omega, by simp⟩
      · simp (config := { maxSteps := 4000000 }) (disch := first | (intros; contradiction) | omega) only [go_sem, hsp, hba, a1, a2, d1, d2, q1, q2, p1, p2]
      · unfold NextR
        rw [← hsame, hex, g2]; rfl
    · rw [g1] at hbr
      obtain ⟨e', cs', hto, rfl⟩ := hbr
      have p1 := hto.dc.r1
      have p2 := hto.dc.r2
      simp only [trailO, srcO] at hba
      have hmu : mu n ((y, 2) :: r') < mu n q := by have := cost_pos (n - q.length); unfold mu at g7 ⊢; omega
      simp (config := { maxSteps := 4000000 }) (disch := first | (intros; contradiction) | omega) only [go_sem, hsp, hba, a1, a2, d1, d2, q1, q2, p1, p2]
      refine ih ((y, 2) :: r', e', cs', s2 + 1) _ ⟨g5, hto, ?_, by simp only; omega, by simp only; omega, .inr (by simp only; omega)⟩ (by simp only; omega) (by simp (config := { maxSteps := 4000000 }) (disch := first | (intros; contradiction) | omega) only [go_sem, a1, a2, p1, p2] <;> rfl)
      rw [← hsame, hex, g6]
      simp [Go.Proofs.Ytchedkjlhjfadaa.rest]
  | true =>
    have hall := hb1 rfl
    have hop := open_e n fl hx hn (valR q) f2 q.length ds2 htq.dc s2
    simp only [srcO] at hop
    by_cases hz : openZ (valR q) n = 0
    · have hset := openZ_none hz
      have hfull := ext_full hr hok.inv hset hall
      rw [hz] at hop
      refine ⟨true, q, f2, ds2, s2, ?_, ⟨hok.inv, hfull, ?_⟩, htq, hs4, by omega, fun _ hrl => ?_⟩
      · simp (config := { maxSteps := 4000000 }) (disch := first | (intros; contradiction) | omega) only [go_sem, hsp, hop, a1, a2, d1, d2, q1, q2]
      · rw [← hsame, hfull]; rfl
      · rcases hs5 with h | h
        · subst h
          exfalso
          have := trInv_full hok.inv hset
          omega
        · exact h
    · have h0 := openZ_lo (valR q) n
      have hi := openZ_hi (valR q) n
      obtain ⟨v, hv⟩ : ∃ v : Nat, openZ (valR q) n = (v : Int) := ⟨(openZ (valR q) n).toNat, by omega⟩
      obtain ⟨v1, v2, v3⟩ := openZ_some hv (by omega)
      rw [hv] at hop hz
      have hneg : IntKind.wrap .i64 (0 - (v : Int)) = -(v : Int) := by rw [wrap64 (by omega) (by omega)]; omega
      have htr : truthZ (valR q) (-(v : Int)) = 0 := by rw [truthZ_val, Int.natAbs_neg, Int.natAbs_natCast, v2]; split <;> rfl
      obtain ⟨r1, r2⟩ := trInv_room hok.inv (x := -(v : Int)) (by omega) (by omega) (by omega) htr 1
      have hch := ext_choose (ls := fl) (r := q) (v := v) (by omega) v1 v3
      have hpu := putT_e n fl hx hn htq hql f2 (-(v : Int)) 1 (by omega) s2 (by omega)
      simp only [trailO, srcO, List.length_cons] at hpu
      have hput := htq.put (-(v : Int)) 1
      generalize ds2.take (q.length * 2) ++ trC [(-(v : Int), 1)] = ds' at hpu hput
      have p1 := hput.dc.r1
      have p2 := hput.dc.r2
      have hmu := mu_put r2 (-(v : Int)) 1
      simp (config := { maxSteps := 4000000 }) (disch := first | (intros; contradiction) | omega) only [go_sem, hsp, hop, hz, hneg, hpu, a1, a2, d1, d2, q1, q2, p1, p2]
      refine ih ((-(v : Int), 1) :: q, f2 + 1, ds', s2 + 1) _ ⟨r1, hput, ?_, by simp only; omega, by simp only; omega, .inr (by simp only; omega)⟩ (by simp only; omega) (by simp only [List.length_cons]; simp (config := { maxSteps := 4000000 }) (disch := first | (intros; contradiction) | omega) only [go_sem, a1, a2, p1, p2] <;> rfl)
      rw [← hsame, hch]
      simp [Go.Proofs.Ytchedkjlhjfadaa.rest]
end
end Go.Proofs.Ytchedkjlhjfadaa
