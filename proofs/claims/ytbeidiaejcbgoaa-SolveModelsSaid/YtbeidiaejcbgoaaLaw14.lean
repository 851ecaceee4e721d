/- The statements' own: which formulas are light, right, and true in a model, walked. Conditions: a formula in memory. -/
import Derived.Test.YtbeidiaejcbgoaaCnf2
import Derived.Test.YtbeidiaejcbgoaaSat
namespace Go.Proofs.Ytbeidiaejcbgoaa
open Go.RowKit

set_option maxHeartbeats 400000 in
theorem lit_any (n x : Int) (w : World) (h0 : 0 ≤ n) (h1 : n ≤ 100000) :
    Calls Try.prog 31 #[.int .i64 n, .int .i64 x] w fun e w' => e = .returned (.bool (litB n x)) ∧ w' = w := by
  unfold litB
  by_cases a : x = 0
  · subst a
    go_enter Try.func31, Try.ntmps31
    go_wp2
    go_ret
    exact ⟨by simp, rfl⟩
  · have a' : (x != 0) = true := by simpa using a
    by_cases b : x ≤ n
    · have b' : decide (x ≤ n) = true := by simpa using b
      by_cases c : -n ≤ x
      · have HG : Hid (decide (x ≠ 0 ∧ x ≤ n ∧ -n ≤ x) = true) := by show _ = _; simp [a, b, c]
        have c' : decide (-n ≤ x) = true := by simpa using c
        clear a
        go_enter Try.func31, Try.ntmps31
        go_wp2
        go_ret
        exact ⟨by first | rfl | exact ret_bool (by rw [HG.out]), rfl⟩
      · have HG : Hid (decide (x ≠ 0 ∧ x ≤ n ∧ -n ≤ x) = false) := by show _ = _; simp [c]
        have c' : decide (-n ≤ x) = false := by simpa using c
        clear a
        go_enter Try.func31, Try.ntmps31
        go_wp2
        go_ret
        exact ⟨by first | rfl | exact ret_bool (by rw [HG.out]), rfl⟩
    · have HG : Hid (decide (x ≠ 0 ∧ x ≤ n ∧ -n ≤ x) = false) := by show _ = _; simp [b]
      have b' : decide (x ≤ n) = false := by simpa using b
      clear a
      go_enter Try.func31, Try.ntmps31
      go_wp2
      go_ret
      exact ⟨by first | rfl | exact ret_bool (by rw [HG.out]), rfl⟩

/-- The clauses from place k on are of n variables. -/
theorem all_drop_yes {α : Type} {p : α → Bool} {l : List α} {k : Nat} (h : k < l.length) (d : α) (hp : p (l[k]?.getD d) = true) : (l.drop k).all p = (l.drop (k + 1)).all p := by
  have e : l[k]?.getD d = l[k] := by simp [h]
  rw [e] at hp
  rw [List.drop_eq_getElem_cons h, List.all_cons, hp, Bool.true_and]
theorem all_drop_no {α : Type} {p : α → Bool} {l : List α} {k : Nat} (h : k < l.length) (d : α) (hp : p (l[k]?.getD d) = false) : (l.drop k).all p = false := by
  have e : l[k]?.getD d = l[k] := by simp [h]
  rw [e] at hp
  rw [List.drop_eq_getElem_cons h, List.all_cons, hp, Bool.false_and]
theorem allB_all (n : Int) (c : List Int) : allB n c = c.all (litB n) := by
  unfold allB; rw [List.not_any_eq_all_not]; simp

set_option maxHeartbeats 2000000 in
theorem refRight_loop (n : Int) (ls : List (List Int)) (la : Option Addr) (lcap : Nat) (D : Nat → Prop) (w : World) (hl : IntRows D w (.slice la ls.length lcap) ls) (h0 : 0 ≤ n) (h1 : n ≤ 100000) (h2 : ls.length ≤ 200000) :
    Calls Try.prog 9 #[.agg #[.int .i64 n, .slice la ls.length lcap]] w fun e w' => e = .returned (.bool (ls.all (allB n))) ∧ Chg (fun _ => False) w w' := by
  obtain ⟨a, cap, hv, hlc, hlm, hcs⟩ := hl.open
  cases hv
  have hbox := World.alloc_heap_new w (.cells #[.int .i64 n, .slice la ls.length lcap] 24)
  have HB := Lib.hid hbox
  have HCS := Lib.hid hcs
  clear hbox hl hcs
  generalize hres : ls.all (allB n) = res
  have HRES := Lib.hid hres
  clear hres
  have a' : decide (n < 0) = false := by simpa using h0
  have b' : decide (100000 < n) = false := by simpa using h1
  have c' : decide (200000 < (ls.length : Int)) = false := by simp; omega
  go_enter Try.func9, Try.ntmps9
  go_wp2
  go_loopw [3, 4] (fun i _ wr => ∃ k : Nat, k ≤ ls.length ∧ i = .int .i64 k ∧ Hid (Chg (fun _ => False) (w.alloc (.cells #[.int .i64 n, .slice la ls.length lcap] 24)) wr ∧ (ls.drop k).all (allB n) = res)) (fun i _ _ => ls.length - (intOf i).toNat)
  case atStart => exact ⟨0, Nat.zero_le _, rfl, Chg.refl _ _, HRES.out⟩
  case round =>
    obtain ⟨k, hk, rfl, HR⟩ := hrel
    have hb := HR.out.1.heap id HB.out
    have d0 : wr.cell? ⟨w.heap.size, 0, none⟩ = some (.int .i64 n) := by rw [cell_of_heap hb]; rfl
    have d1 : wr.cell? ⟨w.heap.size, 1, none⟩ = some (.slice la ls.length lcap) := by rw [cell_of_heap hb]; rfl
    clear hb
    by_cases hlt : k < ls.length
    · rcases HCS.out with h | ⟨lb, lo, rfl, _, hcs⟩
      · rw [h] at hlt; exact absurd hlt (Nat.not_lt_zero _)
      obtain ⟨u, hu, hI⟩ := hcs k hlt
      have hc := (Chg.refl (fun _ => False) w).alloc (.cells #[.int .i64 n, .slice (some ⟨lb, lo, none⟩) ls.length lcap] 24)
      have du := HR.out.1.cell' (hc.cell' hu id) id
      have dI := (hI.chg hc (fun _ _ x => x)).chg HR.out.1 (fun _ _ x => x)
      have hyes := all_drop_yes (p := allB n) hlt []
      have hno := all_drop_no (p := allB n) hlt []
      rw [HR.out.2] at hyes hno
      generalize ls[k]?.getD [] = c at dI hyes hno
      obtain ⟨ca, cc, rfl, hcc, hcm, hcs2⟩ := dI.open
      have HYN := Lib.hid (And.intro hyes hno)
      have HC2 := Lib.hid hcs2
      obtain ⟨wo, rfl⟩ : ∃ wo : World, wo = wr := ⟨_, rfl⟩
      clear hyes hno hcs2 hcs hu hI hc dI
      go_wp2
      go_loopw [4] (fun j wi => ∃ m : Nat, m ≤ c.length ∧ j = .int .i64 m ∧ Hid (Chg (fun _ => False) wo wi ∧ (c.drop m).all (litB n) = allB n c)) (fun j _ => c.length - (intOf j).toNat)
      case atStart => exact ⟨0, Nat.zero_le _, rfl, Chg.refl _ _, (allB_all n c).symm⟩
      case round =>
        obtain ⟨m, hm, rfl, HI⟩ := hrel
        have e0 := HI.out.1.cell' d0 id
        have e1 := HI.out.1.cell' d1 id
        have eu := HI.out.1.cell' du id
        by_cases hlt2 : m < c.length
        · rcases HC2.out with h | ⟨cb, co, rfl, _, hcs2⟩
          · rw [h] at hlt2; exact absurd hlt2 (Nat.not_lt_zero _)
          have ey := HI.out.1.cell' (hcs2 m hlt2) id
          have hyes := all_drop_yes (p := litB n) hlt2 0
          have hno := all_drop_no (p := litB n) hlt2 0
          rw [HI.out.2] at hyes hno
          clear d0 d1 du hcs2
          generalize c[m]?.getD 0 = y at ey hyes hno
          cases hq : litB n y
          · have hL : ∀ W, Calls Try.prog 31 #[.int .i64 n, .int .i64 y] W fun e w' => e = .returned (.bool false) ∧ w' = W := fun W => by rw [← hq]; exact lit_any n y W h0 h1
            have HL := Lib.hid hL
            have HN := Lib.hid (hno hq)
            clear hyes hno hL hq
            go_wp2
            go_quiet ((go_at_call 31; exact Calls.quiet_of_same (HL.out _)))
            go_wp2
            go_ret
            refine ⟨?_, ((((Chg.refl _ _).alloc _).trans HR.out.1).trans HI.out.1).drewN _⟩
            rw [HYN.out.2 HN.out]; rfl
          · have hL : ∀ W, Calls Try.prog 31 #[.int .i64 n, .int .i64 y] W fun e w' => e = .returned (.bool true) ∧ w' = W := fun W => by rw [← hq]; exact lit_any n y W h0 h1
            have HL := Lib.hid hL
            have HN := Lib.hid (hyes hq)
            clear hyes hno hL hq
            go_wp2
            go_quiet ((go_at_call 31; exact Calls.quiet_of_same (HL.out _)))
            go_wp2
            go_roundw
            case rel => exact ⟨m + 1, by omega, by go_num, HI.out.1.drewN _, HN.out.symm⟩
            case measure => simp [intOf]; omega
        · obtain rfl : m = c.length := by omega
          go_wp2
          go_roundw
          case rel =>
            have h := HI.out.2
            rw [List.drop_length] at h
            exact ⟨k + 1, by omega, by go_num, HR.out.1.trans HI.out.1, (HYN.out.1 h.symm).symm⟩
          case measure => simp [intOf]; omega
    · obtain rfl : k = ls.length := by omega
      go_wp2
      go_ret
      have h := HR.out.2
      rw [List.drop_length] at h
      exact ⟨by rw [← h]; rfl, ((Chg.refl _ _).alloc _).trans HR.out.1⟩
end Go.Proofs.Ytbeidiaejcbgoaa
