/- cnf: Right walked. Conditions: a formula in memory. -/
import Derived.Test.YtbeidiaejcbgoaaCnf1
namespace Go.Proofs.Ytbeidiaejcbgoaa
open Go.RowKit

def rightB (n : Int) (ls : List (List Int)) : Bool := decide (0 ≤ n ∧ n ≤ 100000) && decide (ls.length ≤ 200000) && ls.all (allB n)

set_option maxHeartbeats 400000 in
theorem right1_any (n : Int) (nb : Nat) (l : List Int) (v : Value) (D : Nat → Prop) (w : World) (h0 : 0 ≤ n) (h1 : n ≤ 100000) (hc : w.cell? ⟨nb, 0, none⟩ = some (.int .i64 n)) (hl : Ints D w v l) :
    Calls Try.prog 47 #[v, .pointer (some ⟨nb, 0, none⟩)] w fun e w' => e = .returned (.bool (!allB n l)) ∧ Chg (fun _ => False) w w' := by
  have HI := Lib.hid (all_any n l v D w h0 h1 hl)
  generalize allB n l = q at HI ⊢
  clear hl
  go_enter Try.func47, Try.ntmps47
  go_wp2_with fail
  refine HI.out.mono ?_
  rintro e w' ⟨rfl, hcg⟩
  have HC := Lib.hid hcg
  clear hcg
  go_wp2
  go_ret
  exact ⟨rfl, HC.out⟩

set_option maxHeartbeats 1000000 in
theorem idxRows_some (n : Int) (nb : Nat) (ls : List (List Int)) (lb lo lc : Nat) (D : Nat → Prop) (w : World) (h0 : 0 ≤ n) (h1 : n ≤ 100000) (hc : w.cell? ⟨nb, 0, none⟩ = some (.int .i64 n))
    (hlen : ls.length ≤ 9223372036854775807) (hl : ∀ i, i < ls.length → ∃ u, w.cell? ⟨lb, lo + i, none⟩ = some u ∧ Ints D w u (ls[i]?.getD [])) :
    Calls Try.prog 57 #[.slice (some ⟨lb, lo, none⟩) ls.length lc, .func (.func 47) #[] #[.pointer (some ⟨nb, 0, none⟩)]] w
      fun e w' => e = .returned (.int .i64 (findZ (fun x => !allB n x) ls)) ∧ Chg (fun _ => False) w w' := by
  have HL := Lib.hid hl
  have HC := Lib.hid hc
  clear hl hc
  generalize hres : findZ (fun x => !allB n x) ls = res
  have HRES := Lib.hid hres
  clear hres
  go_enter Try.func57, Try.ntmps57
  go_wp2
  go_loopw [8] (fun i wr => ∃ (k : Nat), k ≤ ls.length ∧ i = .int .i64 k ∧ Hid (findFrom (fun x => !allB n x) ls k = res ∧ Chg (fun _ => False) w wr)) (fun i _ => ls.length - (intOf i).toNat)
  case atStart => exact ⟨0, Nat.zero_le _, rfl, (findFrom_zero _ _).trans HRES.out, Chg.refl _ _⟩
  case round =>
    obtain ⟨k, hk, rfl, HR⟩ := hrel
    by_cases hlt : k < ls.length
    · obtain ⟨u, hu, hI⟩ := HL.out k hlt
      have hcg := HR.out.2
      have hcell := hcg.cell' hu id
      have hIn := hI.chg hcg (fun _ _ x => x)
      have hyes := findFrom_yes (p := fun x => !allB n x) hlt []
      have hno := findFrom_no (p := fun x => !allB n x) hlt []
      rw [HR.out.1] at hyes hno
      generalize ls[k]?.getD [] = y at hIn hyes hno
      have HA := Lib.hid (right1_any n nb y u D wr h0 h1 (hcg.cell' HC.out id) hIn)
      clear hu hI hIn hcg
      cases hq : allB n y
      · rw [hq] at HA
        have HD := Lib.hid (hyes (by simp [hq]))
        clear hyes hno hq
        go_wp2_with fail
        refine HA.out.mono ?_
        rintro e w' ⟨rfl, hc2⟩
        have HC2 := Lib.hid (HR.out.2.trans hc2)
        clear hc2
        go_wp2
        try rw [Exit.noGoto_ret]
        go_ret
        exact ⟨ret_int HD.out.symm, HC2.out⟩
      · rw [hq] at HA
        have HD := Lib.hid (hno (by simp [hq]))
        clear hyes hno hq
        go_wp2_with fail
        refine HA.out.mono ?_
        rintro e w' ⟨rfl, hc2⟩
        have HC2 := Lib.hid (HR.out.2.trans hc2)
        clear hc2
        go_wp2
        go_roundw
        case rel => exact ⟨k + 1, by omega, by go_num, HD.out.symm, HC2.out⟩
        case measure => simp [intOf]; omega
    · have hk' : k = ls.length := by omega
      subst hk'
      have hD := HR.out.1
      rw [findFrom_end] at hD
      subst hD
      go_wp2
      go_ret
      exact ⟨rfl, HR.out.2⟩

theorem idxRows_nil (f : Value) (a : Option Addr) (lc : Nat) (w : World) :
    Calls Try.prog 57 #[.slice a 0 lc, f] w fun e w' => e = .returned (.int .i64 (-1)) ∧ w = w' := by
  go_enter Try.func57, Try.ntmps57
  go_wp2
  refine wp_loop_rounds 1 ?_
  rw [rounds_succ]
  go_wp2
  go_ret
  exact ⟨rfl, rfl⟩

theorem contRows_any (n : Int) (nb : Nat) (ls : List (List Int)) (v : Value) (D : Nat → Prop) (w : World) (h0 : 0 ≤ n) (h1 : n ≤ 100000) (hc : w.cell? ⟨nb, 0, none⟩ = some (.int .i64 n)) (hl : IntRows D w v ls) :
    Calls Try.prog 46 #[v, .func (.func 47) #[] #[.pointer (some ⟨nb, 0, none⟩)]] w
      fun e w' => e = .returned (.bool (ls.any fun x => !allB n x)) ∧ Chg (fun _ => False) w w' := by
  rw [← findZ_any]
  have HI : Hid (Calls Try.prog 57 #[v, .func (.func 47) #[] #[.pointer (some ⟨nb, 0, none⟩)]] w
      fun e w' => e = .returned (.int .i64 (findZ (fun x => !allB n x) ls)) ∧ Chg (fun _ => False) w w') := by
    obtain ⟨a, cap, rfl, hcap, hmx, hcs⟩ := hl.open
    rcases hcs with h | ⟨cb, co, rfl, hlt, hcs⟩
    · subst h
      exact (idxRows_nil _ _ _ _).mono fun e w' ⟨h1, h2⟩ => ⟨h1, by rw [h2]; exact Chg.refl _ _⟩
    · exact idxRows_some n nb ls cb co cap D w h0 h1 hc hmx hcs
  generalize findZ (fun x => !allB n x) ls = z at HI ⊢
  clear hl hc
  go_enter Try.func46, Try.ntmps46
  go_wp2_with fail
  refine HI.out.mono ?_
  rintro e w' ⟨rfl, hc2⟩
  have HC2 := Lib.hid hc2
  clear hc2
  go_wp2
  go_ret
  exact ⟨rfl, HC2.out⟩

set_option maxHeartbeats 1000000 in
theorem right_any (n : Int) (ls : List (List Int)) (v : Value) (D : Nat → Prop) (w : World) (hl : IntRows D w v ls) :
    Calls Try.prog 34 #[.agg #[.int .i64 n, v]] w fun e w' => e = .returned (.bool (rightB n ls)) ∧ Chg (fun _ => False) w w' := by
  have hmf : ∀ (fn : Fn) (first cap : Array Value) (w : World), (Instr.makeFunc fn first cap).run Try.prog w = .ok (.func fn first cap) w := fun _ _ _ _ => rfl
  obtain ⟨la, lcap, rfl, hlc, hlm, _⟩ := hl.open
  have hbox := World.alloc_heap_new w (.cells #[.int .i64 n, .slice la ls.length lcap] 30)
  have HB : Hid (∀ (_ : 0 ≤ n) (_ : n ≤ 100000), _) := fun h0 h1 => contRows_any n w.heap.size ls _ D (w.alloc (.cells #[.int .i64 n, .slice la ls.length lcap] 30)) h0 h1 (by rw [cell_of_heap hbox]; rfl) (hl.chg ((Chg.refl (fun _ => False) _).alloc _) (fun _ _ x => x))
  clear hbox hl
  by_cases a : n < 0
  · have HF : Hid (rightB n ls = false) := by
      show _ = _
      unfold rightB
      rw [show decide (0 ≤ n ∧ n ≤ 100000) = false by simp; omega]; rfl
    have a' : decide (n < 0) = true := by simpa using a
    go_enter Try.func34, Try.ntmps34
    go_wp2_with fail
    go_ret
    exact ⟨by rw [HF.out]; rfl, (Chg.refl _ _).alloc _⟩
  · have a' : decide (n < 0) = false := by simpa using a
    by_cases b : 100000 < n
    · have HF : Hid (rightB n ls = false) := by
        show _ = _
        unfold rightB
        rw [show decide (0 ≤ n ∧ n ≤ 100000) = false by simp; omega]; rfl
      have b' : decide (100000 < n) = true := by simpa using b
      go_enter Try.func34, Try.ntmps34
      go_wp2_with fail
      go_ret
      exact ⟨by rw [HF.out]; rfl, (Chg.refl _ _).alloc _⟩
    · have b' : decide (100000 < n) = false := by simpa using b
      by_cases c : 200000 < ls.length
      · have HF : Hid (rightB n ls = false) := by
          show _ = _
          unfold rightB
          rw [show decide (ls.length ≤ 200000) = false by simp; omega]; simp
        have c' : decide (200000 < (ls.length : Int)) = true := by simp; omega
        go_enter Try.func34, Try.ntmps34
        go_wp2_with fail
        go_ret
        exact ⟨by rw [HF.out]; rfl, (Chg.refl _ _).alloc _⟩
      · have HF : Hid (rightB n ls = !(ls.any fun x => !allB n x)) := by
          show _ = _
          unfold rightB
          rw [show decide (ls.length ≤ 200000) = true by simp; omega, show decide (0 ≤ n ∧ n ≤ 100000) = true by simp; omega, List.not_any_eq_all_not]; simp
        have c' : decide (200000 < (ls.length : Int)) = false := by simp; omega
        go_enter Try.func34, Try.ntmps34
        go_wp2_with fail
        refine (HB.out (by omega) (by omega)).mono ?_
        rintro e w' ⟨rfl, hc2⟩
        have HC2 := Lib.hid hc2
        clear hc2
        go_wp2
        go_ret
        exact ⟨by rw [HF.out]; rfl, ((Chg.refl _ _).alloc _).trans HC2.out⟩
end Go.Proofs.Ytbeidiaejcbgoaa
