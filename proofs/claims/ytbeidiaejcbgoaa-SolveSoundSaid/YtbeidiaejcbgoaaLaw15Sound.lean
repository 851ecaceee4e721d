/- SolveSound walked: it answers true. Conditions: its arguments in memory. -/
import Derived.Test.YtbeidiaejcbgoaaLaw15a
import Derived.Test.YtbeidiaejcbgoaaSatLex
namespace Go.Proofs.Ytbeidiaejcbgoaa
open Go.RowKit

set_option maxHeartbeats 4000000 in
theorem sound_early (n : Int) (la : Option Addr) (lcap : Nat) (ls : List (List Int)) (ma : Option Addr) (mcap : Nat) (m : List Bool) (D : Nat → Prop) (w : World) (hl : IntRows D w (.slice la ls.length lcap) ls) (hlm : ls.length ≤ 9223372036854775807)
    (h : lightB ls = false ∨ 30 < n ∨ 60 < ls.length ∨ (m.length : Int) ≠ n ∨ rightB n ls = false) :
    Calls Try.prog 3 #[.agg #[.int .i64 n, .slice la ls.length lcap], .slice ma m.length mcap] w fun e w' => e = .returned (.bool true) ∧ Chg (fun _ => False) w w' := by
  have hbox := World.alloc_heap_new w (.cells #[.int .i64 n, .slice la ls.length lcap] 24)
  have hc0 := (Chg.refl (fun _ => False) w).alloc (.cells #[.int .i64 n, .slice la ls.length lcap] 24)
  have HLI := Lib.hid (light_any n ls _ D _ (hl.chg hc0 (fun _ _ x => x)))
  have HB := Lib.hid (And.intro hbox (And.intro hc0 (And.intro hl h)))
  clear hbox hc0 hl h
  go_enter Try.func3, Try.ntmps3
  go_wp2_with fail
  refine HLI.out.mono ?_
  rintro e w1 ⟨rfl, hc1⟩
  have hb1 := hc1.heap id HB.out.1
  have e0 : w1.cell? ⟨w.heap.size, 0, none⟩ = some (.int .i64 n) := by rw [cell_of_heap hb1]; rfl
  have e1 : w1.cell? ⟨w.heap.size, 1, none⟩ = some (.slice la ls.length lcap) := by rw [cell_of_heap hb1]; rfl
  have H1 := Lib.hid (HB.out.2.1.trans hc1)
  clear hc1 hb1
  cases hq : lightB ls with
  | false =>
    clear hq
    go_wp2_with (go_at_call 10; refine (alive_any _).mono ?_; rintro e w2 ⟨rfl, hc2⟩)
    go_ret
    exact ⟨rfl, H1.out.trans hc2⟩
  | true =>
    by_cases a : 30 < n
    · have a' : decide (30 < n) = true := by simpa using a
      clear hq a
      go_wp2_with (go_at_call 10; refine (alive_any _).mono ?_; rintro e w2 ⟨rfl, hc2⟩)
      go_ret
      exact ⟨rfl, H1.out.trans hc2⟩
    · have a' : decide (30 < n) = false := by simpa using a
      by_cases b : 60 < ls.length
      · have b' : decide (60 < (ls.length : Int)) = true := by simp; omega
        clear hq a b
        go_wp2_with (go_at_call 10; refine (alive_any _).mono ?_; rintro e w2 ⟨rfl, hc2⟩)
        go_ret
        exact ⟨rfl, H1.out.trans hc2⟩
      · have b' : decide (60 < (ls.length : Int)) = false := by simp; omega
        by_cases c : (m.length : Int) = n
        · have c' : ((m.length : Int) != n) = false := by simp [c]
          have hri : rightB n ls = false := by
            rcases HB.out.2.2.2 with h | h | h | h | h
            · rw [hq] at h; cases h
            · exact absurd h a
            · exact absurd h b
            · exact absurd c h
            · exact h
          have HRI := Lib.hid (refRight_any n ls _ D w1 (HB.out.2.2.1.chg H1.out (fun _ _ x => x)))
          rw [hri] at HRI
          clear hq a b c hri
          go_wp2_with fail
          refine HRI.out.mono ?_
          rintro e w2 ⟨rfl, hc2⟩
          have H2 := Lib.hid (H1.out.trans hc2)
          clear hc2
          go_wp2_with (go_at_call 10; refine (alive_any _).mono ?_; rintro e w3 ⟨rfl, hc3⟩)
          go_ret
          exact ⟨rfl, H2.out.trans hc3⟩
        · have c' : ((m.length : Int) != n) = true := by simp [c]
          clear hq a b c
          go_wp2_with (go_at_call 10; refine (alive_any _).mono ?_; rintro e w2 ⟨rfl, hc2⟩)
          go_ret
          exact ⟨rfl, H1.out.trans hc2⟩

set_option maxHeartbeats 4000000 in
theorem sound_main (n : Nat) (la : Option Addr) (lcap : Nat) (ls : List (List Int)) (ma : Option Addr) (mcap : Nat) (m : List Bool) (D : Nat → Prop) (w : World) (hl : IntRows D w (.slice la ls.length lcap) ls) (hm : Bools D w (.slice ma m.length mcap) m) (hlm : ls.length ≤ 60)
    (hD : ∀ k, D k → k < w.heap.size)
    (hli : lightB ls = true) (hn : n ≤ 30) (hmn : m.length = n) (hri : rightB n ls = true) :
    Calls Try.prog 3 #[.agg #[.int .i64 n, .slice la ls.length lcap], .slice ma m.length mcap] w fun e w' => e = .returned (.bool true) ∧ Chg (fun _ => False) w w' := by
  have hbox := World.alloc_heap_new w (.cells #[.int .i64 n, .slice la ls.length lcap] 24)
  have hc0 := (Chg.refl (fun _ => False) w).alloc (.cells #[.int .i64 n, .slice la ls.length lcap] 24)
  have HLI := Lib.hid (light_any n ls _ D _ (hl.chg hc0 (fun _ _ x => x)))
  rw [hli] at HLI
  have a' : decide (30 < (n : Int)) = false := by simp; omega
  have b' : decide (60 < (ls.length : Int)) = false := by simp; omega
  have c' : ((m.length : Int) != (n : Int)) = false := by simp [hmn]
  have hmo : modelsOf n ls = Mods n ls := by unfold modelsOf; rw [hri]; rfl
  have HB := Lib.hid (And.intro hbox (And.intro hc0 (And.intro hl (And.intro hm (And.intro hri (And.intro hmn (And.intro hmo hD)))))))
  clear hbox hc0 hl hm hri hmn hmo hli hD
  go_enter Try.func3, Try.ntmps3
  go_wp2_with fail
  refine HLI.out.mono ?_
  rintro e w1 ⟨rfl, hc1⟩
  have hb1 := hc1.heap id HB.out.1
  have e0 : w1.cell? ⟨w.heap.size, 0, none⟩ = some (.int .i64 n) := by rw [cell_of_heap hb1]; rfl
  have e1 : w1.cell? ⟨w.heap.size, 1, none⟩ = some (.slice la ls.length lcap) := by rw [cell_of_heap hb1]; rfl
  have H1 := Lib.hid (And.intro (HB.out.2.1.trans hc1) hb1)
  clear hc1 hb1
  go_wp2_with fail
  refine (refRight_any n ls _ D w1 (HB.out.2.2.1.chg H1.out.1 (fun _ _ x => x))).mono ?_
  rw [HB.out.2.2.2.2.1]
  rintro e w2 ⟨rfl, hc2⟩
  have f0 := hc2.cell' e0 id
  have f1 := hc2.cell' e1 id
  have H2 := Lib.hid (And.intro (H1.out.1.trans hc2) (hc2.heap id H1.out.2))
  clear hc2 e0 e1
  go_wp2_with fail
  refine (own_any n la ls.length lcap w2).mono ?_
  rintro e w3 ⟨rfl, hc3⟩
  have g0 := hc3.cell' f0 id
  have g1 := hc3.cell' f1 id
  have H3 := Lib.hid (And.intro (H2.out.1.trans hc3) (hc3.heap id H2.out.2))
  clear hc3 f0 f1
  go_wp2_with fail
  refine (solve_any n _ ls D w3 (HB.out.2.2.1.chg H3.out.1 (fun _ _ x => x)) (fun k hk => Nat.lt_of_lt_of_le (HB.out.2.2.2.2.2.2.2 k hk) H3.out.1.size)).mono ?_
  rintro e w4 ⟨hc4, hp4⟩
  have k0 := hc4.cell' g0 id
  have k1 := hc4.cell' g1 id
  have H4 := Lib.hid (And.intro (H3.out.1.trans hc4) (hc4.heap id H3.out.2))
  clear hc4 g0 g1
  rw [HB.out.2.2.2.2.2.2.1] at hp4
  cases hM : Mods n ls with
  | nil =>
    rw [hM] at hp4
    obtain rfl := hp4
    have hev : evalB n ls m = false := by
      cases h : evalB n ls m with
      | false => rfl
      | true =>
        unfold evalB at h
        simp only [Bool.and_eq_true] at h
        have : m ∈ Mods n ls := mem_mods.2 ⟨HB.out.2.2.2.2.2.1, h.2⟩
        rw [hM] at this; cases this
    have HE := Lib.hid (refEval_any n ls _ m _ D w4 (HB.out.2.2.1.chg H4.out.1 (fun _ _ x => x)) (HB.out.2.2.2.1.chg H4.out.1 (fun _ _ x => x)) (by omega))
    rw [hev] at HE
    clear hM hev
    go_wp2_with fail
    refine HE.out.mono ?_
    rintro e w5 ⟨rfl, hc5⟩
    have H5 := Lib.hid (H4.out.1.trans hc5)
    clear hc5
    go_wp2_with (go_at_call 10; refine (alive_any _).mono ?_; rintro e w6 ⟨rfl, hc6⟩)
    go_ret
    exact ⟨rfl, H5.out.trans hc6⟩
  | cons m0 tl =>
    rw [hM] at hp4
    obtain ⟨g, arr, rfl, hg, hh, hs, hv⟩ := hp4
    have hm0 : m0 ∈ Mods n ls := by rw [hM]; simp
    have hm0' := mem_mods.1 hm0
    have hev : evalB n ls m0 = true := by
      unfold evalB
      rw [HB.out.2.2.2.2.1, hm0'.2, show decide ((m0.length : Int) = (n : Int)) = true by simp [hm0'.1]]; rfl
    have hb4 : Bools (fun k => D k ∨ k = g) w4 (.slice (some ⟨g, 0, none⟩) m0.length m0.length) m0 := by
      refine ⟨_, _, by rw [List.length_map], by simp, by simp; omega, .inr ⟨g, 0, rfl, .inr rfl, fun i hi => ?_⟩⟩
      rw [cell_of_heap hh, Nat.zero_add]
      simp at hi
      rw [hv i hi]
      simp [hi]
    have hl4 : IntRows (fun k => D k ∨ k = g) w4 (.slice la ls.length lcap) ls := (HB.out.2.2.1.chg H4.out.1 (fun _ _ x => x)).mono (fun k hk _ => .inl hk)
    have hm4 : Bools (fun k => D k ∨ k = g) w4 (.slice ma m.length mcap) m := SliceOf.mono (HB.out.2.2.2.1.chg H4.out.1 (fun _ _ x => x)) (fun k hk _ => .inl hk)
    have HE := Lib.hid (refEval_any n ls _ m0 _ _ w4 hl4 hb4 (by omega))
    rw [hev] at HE
    have HX := Lib.hid (And.intro hb4 (And.intro hl4 (And.intro hm4 (And.intro hM (And.intro hm0 hm0'.1)))))
    clear hb4 hl4 hm4 hev hh hs hv hg hm0 hm0' hM
    go_wp2_with fail
    refine HE.out.mono ?_
    rintro e w5 ⟨rfl, hc5⟩
    have p0 := hc5.cell' k0 id
    have p1 := hc5.cell' k1 id
    have H5 := Lib.hid (And.intro (H4.out.1.trans hc5) hc5)
    clear hc5 k0 k1
    have HE2 := Lib.hid (refEval_any n ls _ m _ _ w5 (HX.out.2.1.chg H5.out.2 (fun _ _ x => x)) (HX.out.2.2.1.chg H5.out.2 (fun _ _ x => x)) (by omega))
    go_wp2_with fail
    refine HE2.out.mono ?_
    rintro e w6 ⟨rfl, hc6⟩
    have q0 := hc6.cell' p0 id
    have q1 := hc6.cell' p1 id
    have H6 := Lib.hid (And.intro (H5.out.1.trans hc6) (H5.out.2.trans hc6))
    clear hc6 p0 p1
    cases hev2 : evalB n ls m with
    | false =>
      clear hev2
      go_wp2_with (go_at_call 10; refine (alive_any _).mono ?_; rintro e w7 ⟨rfl, hc7⟩)
      go_ret
      exact ⟨rfl, H6.out.1.trans hc7⟩
    | true =>
      have hlx : m = m0 ∨ Lex m0 m := by
        unfold evalB at hev2
        simp only [Bool.and_eq_true] at hev2
        exact mods_first HX.out.2.2.2.1 (mem_mods.2 ⟨HB.out.2.2.2.2.2.1, hev2.2⟩)
      have HL := Lib.hid hlx
      clear hlx hev2
      go_wp2
      go_loopw [7] (fun i wr => ∃ k : Nat, k ≤ n ∧ i = .int .i64 k ∧ Hid (Chg (fun _ => False) w6 wr ∧ ∀ j, j < k → m0[j]?.getD false = m[j]?.getD false)) (fun i _ => n - (intOf i).toNat)
      case atStart => exact ⟨0, Nat.zero_le _, rfl, Chg.refl _ _, fun j hj => absurd hj (Nat.not_lt_zero _)⟩
      case round =>
        obtain ⟨k, hk, rfl, HR⟩ := hrel
        have d0 := HR.out.1.cell' q0 id
        by_cases hlt : k < n
        · obtain ⟨_, _, hv1, _, _, hcs1⟩ := (HX.out.1.chg (H6.out.2.trans HR.out.1) (fun _ _ x => x)).open
          cases hv1
          obtain ⟨_, _, hv2, _, _, hcs2⟩ := (HX.out.2.2.1.chg (H6.out.2.trans HR.out.1) (fun _ _ x => x)).open
          cases hv2
          have hl0 : k < m0.length := by have := HX.out.2.2.2.2.2; omega
          have hl1 : k < m.length := by have := HB.out.2.2.2.2.2.1; omega
          rcases hcs1 with h | ⟨_, _, h, _, hcs1⟩
          · rw [h] at hl0; exact absurd hl0 (Nat.not_lt_zero _)
          cases h
          rcases hcs2 with h | ⟨mb, mo, rfl, _, hcs2⟩
          · rw [h] at hl1; exact absurd hl1 (Nat.not_lt_zero _)
          have x0 := hcs1 k hl0
          have x1 := hcs2 k hl1
          rw [Nat.zero_add] at x0
          have hlex := lex_at (k := k) HL.out HR.out.2
          have hnext : m0[k]?.getD false = m[k]?.getD false → ∀ j, j < k + 1 → m0[j]?.getD false = m[j]?.getD false := fun h j hj => by
            by_cases e : j = k
            · subst e; exact h
            · exact HR.out.2 j (by omega)
          generalize m0[k]?.getD false = a at x0 hlex hnext
          generalize m[k]?.getD false = b at x1 hlex hnext
          have HNX := Lib.hid (And.intro hlex hnext)
          clear hlex hnext hcs1 hcs2 q0 q1
          cases a <;> cases b
          · go_wp2
            go_quiet (fail)
            go_wp2
            go_roundw
            case rel => exact ⟨k + 1, by omega, by go_num, HR.out.1.drewN _, HNX.out.2 trivial⟩
            case measure => simp [intOf]; omega
          · go_wp2
            go_quiet (fail)
            go_wp2_with (go_at_call 10; refine (alive_any _).mono ?_; rintro e w7 ⟨rfl, hc7⟩)
            try rw [Exit.noGoto_ret]
            go_ret
            exact ⟨rfl, (H6.out.1.trans (HR.out.1.drewN _)).trans hc7⟩
          · exact absurd (HNX.out.1 (by decide)) (by decide)
          · go_wp2
            go_quiet (fail)
            go_wp2
            go_roundw
            case rel => exact ⟨k + 1, by omega, by go_num, HR.out.1.drewN _, HNX.out.2 trivial⟩
            case measure => simp [intOf]; omega
        · obtain rfl : k = n := by omega
          clear q0 q1
          go_wp2_with (go_at_call 10; refine (alive_any _).mono ?_; rintro e w7 ⟨rfl, hc7⟩)
          go_ret
          exact ⟨rfl, (H6.out.1.trans HR.out.1).trans hc7⟩
end Go.Proofs.Ytbeidiaejcbgoaa
