/- The statements' own: right, true, light formulas, walked. Conditions: a formula in memory. -/
import Derived.Test.YtbeidiaejcbgoaaLaw14
namespace Go.Proofs.Ytbeidiaejcbgoaa
open Go.RowKit

set_option maxHeartbeats 1000000 in
theorem refRight_any (n : Int) (ls : List (List Int)) (v : Value) (D : Nat → Prop) (w : World) (hl : IntRows D w v ls) :
    Calls Try.prog 9 #[.agg #[.int .i64 n, v]] w fun e w' => e = .returned (.bool (rightB n ls)) ∧ Chg (fun _ => False) w w' := by
  obtain ⟨la, lcap, rfl, hlc, hlm, hjunk⟩ := hl.open
  clear hjunk
  by_cases a : n < 0
  · have HF : Hid (rightB n ls = false) := by
      show _ = _
      unfold rightB
      rw [show decide (0 ≤ n ∧ n ≤ 100000) = false by simp; omega]; rfl
    have a' : decide (n < 0) = true := by simpa using a
    clear hl
    go_enter Try.func9, Try.ntmps9
    go_wp2_with fail
    go_ret
    exact ⟨by rw [HF.out]; rfl, (Chg.refl _ _).alloc _⟩
  · have a' : decide (n < 0) = false := by simpa using a
    by_cases b : 100000 < n
    · have HF : Hid (rightB n ls = false) := by
        show _ = _
        unfold rightB
        rw [show decide (0 ≤ n ∧ n ≤ 100000) = false by simp; omega]; rfl
      have b' : decide (100000 < n) = true := by simpa using b
      clear hl
      go_enter Try.func9, Try.ntmps9
      go_wp2_with fail
      go_ret
      exact ⟨by rw [HF.out]; rfl, (Chg.refl _ _).alloc _⟩
    · have b' : decide (100000 < n) = false := by simpa using b
      by_cases c : 200000 < ls.length
      · have HF : Hid (rightB n ls = false) := by
          show _ = _
          unfold rightB
          rw [show decide (ls.length ≤ 200000) = false by simp; omega]; simp
        have c' : decide (200000 < (ls.length : Int)) = true := by simp; omega
        clear hl
        go_enter Try.func9, Try.ntmps9
        go_wp2_with fail
        go_ret
        exact ⟨by rw [HF.out]; rfl, (Chg.refl _ _).alloc _⟩
      · have hF : rightB n ls = ls.all (allB n) := by
          unfold rightB
          rw [show decide (ls.length ≤ 200000) = true by simp; omega, show decide (0 ≤ n ∧ n ≤ 100000) = true by simp; omega]; simp
        rw [hF]
        exact refRight_loop n ls la lcap D w hl (by omega) (by omega) (by omega)

/-- A literal's truth in a model. -/
theorem true_pos (x : Nat) (mb mo ml mc : Nat) (t : Bool) (w : World) (h0 : 0 < x) (h1 : x ≤ ml) (_h2 : ml ≤ 9223372036854775807) (hc : w.cell? ⟨mb, mo + (x - 1), none⟩ = some (.bool t)) :
    Calls Try.prog 30 #[.int .i64 x, .slice (some ⟨mb, mo, none⟩) ml mc] w fun e w' => e = .returned (.bool t) ∧ w = w' := by
  obtain ⟨y, rfl⟩ : ∃ y, x = y + 1 := ⟨x - 1, by omega⟩
  rw [show y + 1 - 1 = y by omega] at hc
  go_enter Try.func30, Try.ntmps30
  go_wp2
  go_ret
  exact ⟨rfl, rfl⟩
theorem true_neg (x : Nat) (mb mo ml mc : Nat) (t : Bool) (w : World) (h0 : 0 < x) (h1 : x ≤ ml) (_h2 : ml ≤ 9223372036854775807) (hc : w.cell? ⟨mb, mo + (x - 1), none⟩ = some (.bool t)) :
    Calls Try.prog 30 #[.int .i64 (-(x : Int)), .slice (some ⟨mb, mo, none⟩) ml mc] w fun e w' => e = .returned (.bool (!t)) ∧ w = w' := by
  obtain ⟨y, rfl⟩ : ∃ y, x = y + 1 := ⟨x - 1, by omega⟩
  rw [show y + 1 - 1 = y by omega] at hc
  go_enter Try.func30, Try.ntmps30
  go_wp2
  go_ret
  exact ⟨rfl, rfl⟩

theorem true_any (m : List Bool) (v : Value) (D : Nat → Prop) (x : Int) (w : World) (hm : Bools D w v m) (h0 : x ≠ 0) (h1 : x.natAbs ≤ m.length) :
    Calls Try.prog 30 #[.int .i64 x, v] w fun e w' => e = .returned (.bool (litT m x)) ∧ w = w' := by
  obtain ⟨a, cap, rfl, hcap, hmx, hcs⟩ := hm.open
  rcases hcs with h | ⟨mb, mo, rfl, _, hcs⟩
  · subst h; simp at h1; omega
  have hc := hcs (x.natAbs - 1) (by omega)
  unfold litT
  by_cases hx : x < 0
  · obtain ⟨y, rfl⟩ : ∃ y : Nat, x = -(y : Int) := ⟨(-x).toNat, by omega⟩
    rw [Int.natAbs_neg, Int.natAbs_natCast] at hc h1 ⊢
    rw [show decide (0 < -(y : Int)) = false by simp]
    have := true_neg y mb mo m.length cap _ w (by omega) h1 hmx hc
    refine this.mono fun e w' ⟨h, h'⟩ => ⟨?_, h'⟩
    rw [h]; congr 2; cases m[y - 1]?.getD false <;> rfl
  · obtain ⟨y, rfl⟩ : ∃ y : Nat, x = (y : Int) := ⟨x.toNat, by omega⟩
    rw [Int.natAbs_natCast] at hc h1 ⊢
    rw [show decide (0 < (y : Int)) = true by simp; omega]
    have := true_pos y mb mo m.length cap _ w (by omega) h1 hmx hc
    refine this.mono fun e w' ⟨h, h'⟩ => ⟨?_, h'⟩
    rw [h]; congr 2; cases m[y - 1]?.getD false <;> rfl

def evalB (n : Int) (ls : List (List Int)) (m : List Bool) : Bool := rightB n ls && decide ((m.length : Int) = n) && fT m ls

theorem any_drop {α : Type} {p : α → Bool} {l : List α} {k : Nat} (h : k < l.length) (d : α) : (l.drop k).any p = (p (l[k]?.getD d) || (l.drop (k + 1)).any p) := by
  have e : l[k]?.getD d = l[k] := by simp [h]
  rw [e, List.drop_eq_getElem_cons h, List.any_cons]

theorem rightB_all {n : Int} {ls : List (List Int)} (h : rightB n ls = true) : 0 ≤ n ∧ n ≤ 100000 ∧ ∀ c ∈ ls, ∀ x ∈ c, x ≠ 0 ∧ -n ≤ x ∧ x ≤ n := by
  unfold rightB at h
  simp only [Bool.and_eq_true, decide_eq_true_eq] at h
  obtain ⟨⟨h1, _⟩, h3⟩ := h
  refine ⟨h1.1, h1.2, fun c hc x hx => ?_⟩
  have := List.all_eq_true.1 h3 c hc
  unfold allB at this
  simp only [Bool.not_eq_true', List.any_eq_false, Bool.not_eq_true', Bool.not_eq_false] at this
  have := this x hx
  unfold litB at this
  simp only [decide_eq_true_eq] at this
  omega

set_option maxHeartbeats 4000000 in
theorem refEval_loop (n : Nat) (ls : List (List Int)) (v : Value) (m : List Bool) (mv : Value) (D : Nat → Prop) (w : World) (hl : IntRows D w v ls) (hm : Bools D w mv m) (hr : rightB n ls = true) (hn : m.length = n) :
    Calls Try.prog 13 #[.agg #[.int .i64 n, v], mv] w fun e w' => e = .returned (.bool (fT m ls)) ∧ Chg (fun _ => False) w w' := by
  obtain ⟨la, lcap, rfl, hlc, hlm, hcs⟩ := hl.open
  obtain ⟨ma, mcap, rfl, hmc, hmm, hjunk⟩ := hm.open
  have hbox := World.alloc_heap_new w (.cells #[.int .i64 n, .slice la ls.length lcap] 24)
  have hc0 := (Chg.refl (fun _ => False) w).alloc (.cells #[.int .i64 n, .slice la ls.length lcap] 24)
  have HRT := Lib.hid (refRight_any n ls _ D _ (hl.chg hc0 (fun _ _ x => x)))
  have HB := Lib.hid (And.intro hbox hc0)
  have HCS := Lib.hid (And.intro hcs hm)
  have HRI := Lib.hid hr
  generalize hres : fT m ls = res
  have HRES := Lib.hid hres
  have hne : ((m.length : Int) != (n : Int)) = false := by simp [hn]
  have HNE := Lib.hid hne
  have HN := Lib.hid hn
  clear hbox hl hcs hres hc0 hr hjunk hm hne hn
  go_enter Try.func13, Try.ntmps13
  go_wp2_with fail
  refine HRT.out.mono ?_
  rintro e w1 ⟨rfl, hc1⟩
  rw [HRI.out]
  have e0 : w1.cell? ⟨w.heap.size, 0, none⟩ = some (.int .i64 n) := by rw [cell_of_heap (hc1.heap id HB.out.1)]; rfl
  have H1 := Lib.hid (And.intro (HB.out.2.trans hc1) (hc1.heap id HB.out.1))
  have hne := HNE.out
  clear hc1
  go_wp2
  clear e0 hne
  go_loop [5, 6, 7] (fun i _ _ => ∃ k : Nat, k ≤ ls.length ∧ i = .int .i64 k ∧ Hid ((ls.drop k).all (clauseT m) = res)) (fun i _ _ => ls.length - (intOf i).toNat)
  case atStart => exact ⟨0, Nat.zero_le _, rfl, HRES.out⟩
  case round =>
    obtain ⟨k, hk, rfl, HR⟩ := hrel
    have d0 : w1.cell? ⟨w.heap.size, 0, none⟩ = some (.int .i64 n) := by rw [cell_of_heap H1.out.2]; rfl
    have d1 : w1.cell? ⟨w.heap.size, 1, none⟩ = some (.slice la ls.length lcap) := by rw [cell_of_heap H1.out.2]; rfl
    by_cases hlt : k < ls.length
    · rcases HCS.out.1 with h | ⟨lb, lo, rfl, _, hcs⟩
      · rw [h] at hlt; exact absurd hlt (Nat.not_lt_zero _)
      obtain ⟨u, hu, hI⟩ := hcs k hlt
      have du := H1.out.1.cell' hu id
      have dI := hI.chg H1.out.1 (fun _ _ x => x)
      have hyes := all_drop_yes (p := clauseT m) hlt []
      have hno := all_drop_no (p := clauseT m) hlt []
      have hmem : ls[k]?.getD [] ∈ ls := by rw [List.getElem?_eq_getElem hlt]; exact List.getElem_mem hlt
      rw [HR.out] at hyes hno
      generalize ls[k]?.getD [] = c at dI hyes hno hmem
      obtain ⟨ca, cc, rfl, hcc, hcm, hcs2⟩ := dI.open
      have HYN := Lib.hid (And.intro hyes hno)
      have HC2 := Lib.hid (And.intro hcs2 hmem)
      clear hyes hno hcs2 hcs hu hI dI hmem
      go_wp2
      go_loop [6, 7] (fun q j => ∃ (j' : Nat) (q' : Bool), j' ≤ c.length ∧ j = .int .i64 j' ∧ q = .bool q' ∧ Hid ((q' || (c.drop j').any (litT m)) = clauseT m c)) (fun _ j => c.length - (intOf j).toNat)
      case atStart => exact ⟨0, false, Nat.zero_le _, rfl, rfl, rfl⟩
      case round =>
        obtain ⟨j, q, hj, rfl, rfl, HI⟩ := hrel
        by_cases hlt2 : j < c.length
        · rcases HC2.out.1 with h | ⟨cb, co, rfl, _, hcs2⟩
          · rw [h] at hlt2; exact absurd hlt2 (Nat.not_lt_zero _)
          have ey := hcs2 j hlt2
          have hst := any_drop (p := litT m) hlt2 0
          have hmem2 : c[j]?.getD 0 ∈ c := by rw [List.getElem?_eq_getElem hlt2]; exact List.getElem_mem hlt2
          generalize c[j]?.getD 0 = y at ey hst hmem2
          have HST := Lib.hid (And.intro hst hmem2)
          clear hst hmem2 hcs2
          cases q
          · have htr : Calls Try.prog 30 #[.int .i64 y, .slice ma m.length mcap] w1 fun e w' => e = .returned (.bool (litT m y)) ∧ w1 = w' := by
              obtain ⟨_, h2, h3⟩ := rightB_all HRI.out
              obtain ⟨g1, g2, g3⟩ := h3 c HC2.out.2 y HST.out.2
              have := HN.out
              exact true_any m _ D y w1 (HCS.out.2.chg H1.out.1 (fun _ _ x => x)) g1 (by omega)
            have HTR := Lib.hid htr
            clear htr
            go_wp2_with (go_at_call 30; refine HTR.out.mono ?_; rintro e w' ⟨rfl, rfl⟩)
            go_round
            case rel =>
              refine ⟨j + 1, litT m y, by omega, by go_num, rfl, ?_⟩
              have h := HI.out
              rw [HST.out.1] at h
              exact h
            case measure => simp [intOf]; omega
          · go_wp2
            go_round
            case rel => exact ⟨j + 1, true, by omega, by go_num, rfl, HI.out⟩
            case measure => simp [intOf]; omega
        · obtain rfl : j = c.length := by omega
          cases q
          · have hcl : clauseT m c = false := by have h := HI.out; rw [List.drop_length] at h; exact h.symm
            have HCL := Lib.hid hcl
            clear hcl
            go_wp2
            try rw [Exit.noGoto_ret]
            go_ret
            refine ⟨?_, H1.out.1⟩
            rw [HYN.out.2 HCL.out]; rfl
          · have hcl : clauseT m c = true := by have h := HI.out; exact h.symm
            have HCL := Lib.hid hcl
            clear hcl
            go_wp2
            go_round
            case rel => exact ⟨k + 1, by omega, by go_num, (HYN.out.1 HCL.out).symm⟩
            case measure => simp [intOf]; omega
    · obtain rfl : k = ls.length := by omega
      go_wp2
      go_ret
      have h := HR.out
      rw [List.drop_length] at h
      exact ⟨by rw [← h]; rfl, H1.out.1⟩
end Go.Proofs.Ytbeidiaejcbgoaa
