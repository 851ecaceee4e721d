/- The statements' own: which formulas are true in a model; light ones; a formula as the program's: walked. Conditions: a formula in memory. -/
import Derived.Test.YtbeidiaejcbgoaaLaw14b
namespace Go.Proofs.Ytbeidiaejcbgoaa
open Go.RowKit

set_option maxHeartbeats 1000000 in
theorem refEval_any (n : Int) (ls : List (List Int)) (v : Value) (m : List Bool) (mv : Value) (D : Nat → Prop) (w : World) (hl : IntRows D w v ls) (hm : Bools D w mv m) (wn : -9223372036854775808 ≤ n ∧ n ≤ 9223372036854775807) :
    Calls Try.prog 13 #[.agg #[.int .i64 n, v], mv] w fun e w' => e = .returned (.bool (evalB n ls m)) ∧ Chg (fun _ => False) w w' := by
  obtain ⟨la, lcap, hv, hlc, hlm, hjunk⟩ := hl.open
  obtain ⟨ma, mcap, hmv, hmc, hmm, hjunk'⟩ := hm.open
  clear hjunk hjunk'
  have hbox := World.alloc_heap_new w (.cells #[.int .i64 n, v] 24)
  have hc0 := (Chg.refl (fun _ => False) w).alloc (.cells #[.int .i64 n, v] 24)
  have HRT := Lib.hid (refRight_any n ls _ D _ (hl.chg hc0 (fun _ _ x => x)))
  have HB := Lib.hid (And.intro hbox hc0)
  cases hr : rightB n ls with
  | false =>
    have HF : Hid (evalB n ls m = false) := by show _ = _; unfold evalB; rw [hr]; rfl
    rw [hr] at HRT
    clear hr hl hm hbox hc0
    subst hv hmv
    go_enter Try.func13, Try.ntmps13
    go_wp2_with fail
    refine HRT.out.mono ?_
    rintro e w1 ⟨rfl, hc1⟩
    have H1 := Lib.hid (HB.out.2.trans hc1)
    clear hc1
    go_wp2
    go_ret
    exact ⟨by rw [HF.out]; rfl, H1.out⟩
  | true =>
    by_cases hn : (m.length : Int) = n
    · obtain rfl : n = ((m.length : Nat) : Int) := hn.symm
      have hF : evalB m.length ls m = fT m ls := by unfold evalB; rw [hr]; simp
      rw [hF]
      exact refEval_loop m.length ls v m mv D w hl hm hr rfl
    · have HF : Hid (evalB n ls m = false) := by show _ = _; unfold evalB; simp [hn]
      have hne : ((m.length : Int) != n) = true := by simp [hn]
      rw [hr] at HRT
      clear hr hl hm hbox hc0 hn
      subst hv hmv
      go_enter Try.func13, Try.ntmps13
      go_wp2_with fail
      refine HRT.out.mono ?_
      rintro e w1 ⟨rfl, hc1⟩
      have e0 : w1.cell? ⟨w.heap.size, 0, none⟩ = some (.int .i64 n) := by rw [cell_of_heap (hc1.heap id HB.out.1)]; rfl
      have H1 := Lib.hid (HB.out.2.trans hc1)
      clear hc1
      go_wp2
      go_ret
      exact ⟨by rw [HF.out]; rfl, H1.out⟩

def smallB (x : Int) : Bool := decide (-1000000 ≤ x ∧ x ≤ 1000000)
def clauseB (c : List Int) : Bool := decide (c.length ≤ 60) && c.all smallB
def lightB (ls : List (List Int)) : Bool := decide (ls.length ≤ 80) && ls.all clauseB

set_option maxHeartbeats 1000000 in
theorem clause_any (c : List Int) (v : Value) (D : Nat → Prop) (w : World) (hc : Ints D w v c) :
    Calls Try.prog 19 #[v] w fun e w' => e = .returned (.bool (clauseB c)) ∧ w = w' := by
  obtain ⟨ca, cc, rfl, hcc, hcm, hcs⟩ := hc.open
  have HCS := Lib.hid hcs
  clear hcs hc
  by_cases hlen : 60 < c.length
  · have HF : Hid (clauseB c = false) := by show _ = _; unfold clauseB; rw [show decide (c.length ≤ 60) = false by simp; omega]; rfl
    have h' : decide (60 < (c.length : Int)) = true := by simp; omega
    go_enter Try.func19, Try.ntmps19
    go_wp2_with fail
    go_ret
    exact ⟨by rw [HF.out]; rfl, rfl⟩
  · have hF : clauseB c = c.all smallB := by unfold clauseB; rw [show decide (c.length ≤ 60) = true by simp; omega]; rfl
    rw [hF]
    have h' : decide (60 < (c.length : Int)) = false := by simp; omega
    generalize hres : c.all smallB = res
    have HRES := Lib.hid hres
    clear hres hF
    go_enter Try.func19, Try.ntmps19
    go_wp2
    go_loop [3] (fun i => ∃ k : Nat, k ≤ c.length ∧ i = .int .i64 k ∧ Hid ((c.drop k).all smallB = res)) (fun i => c.length - (intOf i).toNat)
    case atStart => exact ⟨0, Nat.zero_le _, rfl, HRES.out⟩
    case round =>
      obtain ⟨k, hk, rfl, HR⟩ := hrel
      by_cases hlt : k < c.length
      · rcases HCS.out with h | ⟨cb, co, rfl, _, hcs2⟩
        · rw [h] at hlt; exact absurd hlt (Nat.not_lt_zero _)
        have ey := hcs2 k hlt
        have hyes := all_drop_yes (p := smallB) hlt 0
        have hno := all_drop_no (p := smallB) hlt 0
        rw [HR.out] at hyes hno
        generalize c[k]?.getD 0 = y at ey hyes hno
        clear hcs2
        by_cases hy1 : y < -1000000
        · have HN := Lib.hid (hno (by unfold smallB; simp; omega))
          have b1 : decide (y < -1000000) = true := by simpa using hy1
          clear hyes hno
          go_wp2
          try rw [Exit.noGoto_ret]
          go_ret
          exact ⟨by rw [HN.out]; rfl, rfl⟩
        · have b1 : decide (y < -1000000) = false := by simpa using hy1
          by_cases hy2 : 1000000 < y
          · have HN := Lib.hid (hno (by unfold smallB; simp; omega))
            have b2 : decide (1000000 < y) = true := by simpa using hy2
            clear hyes hno
            go_wp2
            try rw [Exit.noGoto_ret]
            go_ret
            exact ⟨by rw [HN.out]; rfl, rfl⟩
          · have HN := Lib.hid (hyes (by unfold smallB; simp; omega))
            have b2 : decide (1000000 < y) = false := by simpa using hy2
            clear hyes hno
            go_wp2
            go_round
            case rel => exact ⟨k + 1, by omega, by go_num, HN.out.symm⟩
            case measure => simp [intOf]; omega
      · obtain rfl : k = c.length := by omega
        go_wp2
        go_ret
        have h := HR.out
        rw [List.drop_length] at h
        exact ⟨by rw [← h]; rfl, rfl⟩

set_option maxHeartbeats 1000000 in
theorem light_any (n : Int) (ls : List (List Int)) (v : Value) (D : Nat → Prop) (w : World) (hl : IntRows D w v ls) :
    Calls Try.prog 8 #[.agg #[.int .i64 n, v]] w fun e w' => e = .returned (.bool (lightB ls)) ∧ Chg (fun _ => False) w w' := by
  obtain ⟨la, lcap, rfl, hlc, hlm, hcs⟩ := hl.open
  have hbox := World.alloc_heap_new w (.cells #[.int .i64 n, .slice la ls.length lcap] 24)
  have hc0 := (Chg.refl (fun _ => False) w).alloc (.cells #[.int .i64 n, .slice la ls.length lcap] 24)
  have HB := Lib.hid (And.intro hbox hc0)
  have HCS := Lib.hid hcs
  clear hcs hl hbox hc0
  by_cases hlen : 80 < ls.length
  · have HF : Hid (lightB ls = false) := by show _ = _; unfold lightB; rw [show decide (ls.length ≤ 80) = false by simp; omega]; rfl
    have h' : decide (80 < (ls.length : Int)) = true := by simp; omega
    go_enter Try.func8, Try.ntmps8
    go_wp2_with fail
    go_ret
    exact ⟨by rw [HF.out]; rfl, HB.out.2⟩
  · have hF : lightB ls = ls.all clauseB := by unfold lightB; rw [show decide (ls.length ≤ 80) = true by simp; omega]; rfl
    rw [hF]
    have h' : decide (80 < (ls.length : Int)) = false := by simp; omega
    generalize hres : ls.all clauseB = res
    have HRES := Lib.hid hres
    clear hres hF
    obtain ⟨W, hW⟩ : ∃ W, W = w.alloc (.cells #[.int .i64 n, .slice la ls.length lcap] 24) := ⟨_, rfl⟩
    rw [← hW] at HB
    have e1 : W.cell? ⟨w.heap.size, 1, none⟩ = some (.slice la ls.length lcap) := by rw [cell_of_heap HB.out.1]; rfl
    go_enter Try.func8, Try.ntmps8
    go_wp2_with fail
    simp only [← hW]
    clear hW
    go_loop [3] (fun i => ∃ k : Nat, k ≤ ls.length ∧ i = .int .i64 k ∧ Hid ((ls.drop k).all clauseB = res)) (fun i => ls.length - (intOf i).toNat)
    case atStart => exact ⟨0, Nat.zero_le _, rfl, HRES.out⟩
    case round =>
      obtain ⟨k, hk, rfl, HR⟩ := hrel
      by_cases hlt : k < ls.length
      · rcases HCS.out with h | ⟨lb, lo, rfl, _, hcs2⟩
        · rw [h] at hlt; exact absurd hlt (Nat.not_lt_zero _)
        obtain ⟨u, hu, hI⟩ := hcs2 k hlt
        have eu := HB.out.2.cell' hu id
        have dI := hI.chg HB.out.2 (fun _ _ x => x)
        have hyes := all_drop_yes (p := clauseB) hlt []
        have hno := all_drop_no (p := clauseB) hlt []
        rw [HR.out] at hyes hno
        generalize ls[k]?.getD [] = c at dI hyes hno
        have hca := clause_any c u D W dI
        clear hcs2 hu hI dI
        cases hq : clauseB c
        · rw [hq] at hca
          have HN := Lib.hid (And.intro (hno hq) hca)
          clear hyes hno hca hq
          go_wp2_with (go_at_call 19; refine HN.out.2.mono ?_; rintro e w' ⟨rfl, rfl⟩)
          try rw [Exit.noGoto_ret]
          go_ret
          exact ⟨by rw [HN.out.1]; rfl, HB.out.2⟩
        · rw [hq] at hca
          have HN := Lib.hid (And.intro (hyes hq) hca)
          clear hyes hno hca hq
          go_wp2_with (go_at_call 19; refine HN.out.2.mono ?_; rintro e w' ⟨rfl, rfl⟩)
          go_round
          case rel => exact ⟨k + 1, by omega, by go_num, HN.out.1.symm⟩
          case measure => simp [intOf]; omega
      · obtain rfl : k = ls.length := by omega
        go_wp2
        go_ret
        have h := HR.out
        rw [List.drop_length] at h
        exact ⟨by rw [← h]; rfl, HB.out.2⟩

theorem own_any (n : Int) (la : Option Addr) (ll lc : Nat) (w : World) :
    Calls Try.prog 12 #[.agg #[.int .i64 n, .slice la ll lc]] w fun e w' => e = .returned (.agg #[.int .i64 n, .slice la ll lc]) ∧ Chg (fun _ => False) w w' := by
  go_enter Try.func12, Try.ntmps12
  go_wp2
  exact bodyPost_ret (v := .agg #[.int .i64 n, .slice la ll lc]) (by simp [results, Try.results12, go_sem]) rfl ⟨rfl, ((Chg.refl _ _).alloc _).alloc _⟩
end Go.Proofs.Ytbeidiaejcbgoaa
