/- The statements' own: light formulas; truths compared; the n-th list of truths: walked. Conditions: their arguments in memory. -/
import Derived.Test.YtbeidiaejcbgoaaLaw14c
import Derived.Test.YtbeidiaejcbgoaaSearch3
namespace Go.Proofs.Ytbeidiaejcbgoaa
open Go.RowKit

def light15 (n : Int) (ls : List (List Int)) : Bool := lightB ls && decide (n ≤ 10) && decide (ls.length ≤ 40)

set_option maxHeartbeats 1000000 in
theorem light15_any (n : Int) (ls : List (List Int)) (v : Value) (D : Nat → Prop) (w : World) (hl : IntRows D w v ls) :
    Calls Try.prog 14 #[.agg #[.int .i64 n, v]] w fun e w' => e = .returned (.bool (light15 n ls)) ∧ Chg (fun _ => False) w w' := by
  obtain ⟨la, lcap, rfl, hlc, hlm, hjunk⟩ := hl.open
  clear hjunk
  have hbox := World.alloc_heap_new w (.cells #[.int .i64 n, .slice la ls.length lcap] 24)
  have hc0 := (Chg.refl (fun _ => False) w).alloc (.cells #[.int .i64 n, .slice la ls.length lcap] 24)
  have HLI := Lib.hid (light_any n ls _ D _ (hl.chg hc0 (fun _ _ x => x)))
  have HB := Lib.hid (And.intro hbox hc0)
  clear hbox hc0 hl
  have HF := Lib.hid (show light15 n ls = (lightB ls && decide (n ≤ 10) && decide (ls.length ≤ 40)) from rfl)
  by_cases a : n ≤ 10
  · have a' : decide (n ≤ 10) = true := by simpa using a
    by_cases b : ls.length ≤ 40
    · have b' : decide ((ls.length : Int) ≤ 40) = true := by simp; omega
      have hF : light15 n ls = lightB ls := by rw [HF.out, a', show decide (ls.length ≤ 40) = true by simpa using b]; simp
      rw [hF]
      clear HF hF
      generalize lightB ls = q at HLI ⊢
      cases q
      all_goals
        go_enter Try.func14, Try.ntmps14
        go_wp2_with fail
        refine HLI.out.mono ?_
        rintro e w1 ⟨rfl, hc1⟩
        have e0 : w1.cell? ⟨w.heap.size, 0, none⟩ = some (.int .i64 n) := by rw [cell_of_heap (hc1.heap id HB.out.1)]; rfl
        have e1 : w1.cell? ⟨w.heap.size, 1, none⟩ = some (.slice la ls.length lcap) := by rw [cell_of_heap (hc1.heap id HB.out.1)]; rfl
        have H1 := Lib.hid (HB.out.2.trans hc1)
        clear hc1
        go_wp2
        go_ret
        exact ⟨rfl, H1.out⟩
    · have b' : decide ((ls.length : Int) ≤ 40) = false := by simp; omega
      have hF : light15 n ls = false := by rw [HF.out, show decide (ls.length ≤ 40) = false by simpa using b]; simp
      rw [hF]
      clear HF hF
      go_enter Try.func14, Try.ntmps14
      go_wp2_with fail
      refine HLI.out.mono ?_
      rintro e w1 ⟨rfl, hc1⟩
      have e0 : w1.cell? ⟨w.heap.size, 0, none⟩ = some (.int .i64 n) := by rw [cell_of_heap (hc1.heap id HB.out.1)]; rfl
      have e1 : w1.cell? ⟨w.heap.size, 1, none⟩ = some (.slice la ls.length lcap) := by rw [cell_of_heap (hc1.heap id HB.out.1)]; rfl
      have H1 := Lib.hid (HB.out.2.trans hc1)
      clear hc1
      cases lightB ls
      · go_wp2
        go_ret
        exact ⟨rfl, H1.out⟩
      · go_wp2
        go_ret
        exact ⟨rfl, H1.out⟩
  · have a' : decide (n ≤ 10) = false := by simpa using a
    have hF : light15 n ls = false := by rw [HF.out, a']; simp
    rw [hF]
    clear HF hF
    go_enter Try.func14, Try.ntmps14
    go_wp2_with fail
    refine HLI.out.mono ?_
    rintro e w1 ⟨rfl, hc1⟩
    have e0 : w1.cell? ⟨w.heap.size, 0, none⟩ = some (.int .i64 n) := by rw [cell_of_heap (hc1.heap id HB.out.1)]; rfl
    have H1 := Lib.hid (HB.out.2.trans hc1)
    clear hc1
    cases lightB ls
    · go_wp2
      go_ret
      exact ⟨rfl, H1.out⟩
    · go_wp2
      go_ret
      exact ⟨rfl, H1.out⟩

theorem all_eq_of {α : Type} {a b : List α} (d : α) (hl : a.length = b.length) (h : ∀ j, j < a.length → a[j]?.getD d = b[j]?.getD d) : a = b := by
  refine List.ext_getElem hl ?_
  intro i h1 h2
  have := h i h1
  simpa [h1, h2] using this

set_option maxHeartbeats 1000000 in
theorem truths_any (a b : List Bool) (va vb : Value) (D : Nat → Prop) (w : World) (ha : Bools D w va a) (hb : Bools D w vb b) :
    Calls Try.prog 17 #[va, vb] w fun e w' => e = .returned (.bool (a == b)) ∧ Chg (fun _ => False) w w' := by
  obtain ⟨aa, ac, rfl, h1, h2, hcs1⟩ := ha.open
  obtain ⟨ba, bc, rfl, h3, h4, hcs2⟩ := hb.open
  have HCS := Lib.hid (And.intro hcs1 hcs2)
  clear ha hb hcs1 hcs2
  by_cases hl : a.length = b.length
  · have hl' : ((a.length : Int) != (b.length : Int)) = false := by simp [hl]
    have HLE := Lib.hid hl
    generalize hres : (a == b) = res
    have HRES := Lib.hid hres
    clear hres hl
    go_enter Try.func17, Try.ntmps17
    go_wp2
    go_loopw [5] (fun i wr => ∃ k : Nat, k ≤ a.length ∧ i = .int .i64 k ∧ Hid (Chg (fun _ => False) w wr ∧ ∀ j, j < k → a[j]?.getD false = b[j]?.getD false)) (fun i _ => a.length - (intOf i).toNat)
    case atStart => exact ⟨0, Nat.zero_le _, rfl, Chg.refl _ _, fun j hj => absurd hj (Nat.not_lt_zero _)⟩
    case round =>
      obtain ⟨k, hk, rfl, HR⟩ := hrel
      by_cases hlt : k < a.length
      · have hlt2 : k < b.length := by have := HLE.out; omega
        rcases HCS.out.1 with h | ⟨ab, ao, rfl, _, hcs1⟩
        · rw [h] at hlt; exact absurd hlt (Nat.not_lt_zero _)
        rcases HCS.out.2 with h | ⟨bb, bo, rfl, _, hcs2⟩
        · rw [h] at hlt2; exact absurd hlt2 (Nat.not_lt_zero _)
        have x0 := HR.out.1.cell' (hcs1 k hlt) id
        have x1 := HR.out.1.cell' (hcs2 k hlt2) id
        have hnext : a[k]?.getD false = b[k]?.getD false → ∀ j, j < k + 1 → a[j]?.getD false = b[j]?.getD false := fun h j hj => by
          by_cases e : j = k
          · subst e; exact h
          · exact HR.out.2 j (by omega)
        have hno : a[k]?.getD false ≠ b[k]?.getD false → (a == b) = false := fun h => by
          rw [beq_eq_false_iff_ne]; intro e; rw [e] at h; exact h rfl
        rw [HRES.out] at hno
        generalize a[k]?.getD false = p at x0 hnext hno
        generalize b[k]?.getD false = q at x1 hnext hno
        have HN := Lib.hid (And.intro hnext hno)
        clear hnext hno hcs1 hcs2
        cases p <;> cases q
        · go_wp2
          go_quiet (fail)
          go_wp2
          go_roundw
          case rel => exact ⟨k + 1, by omega, by go_num, HR.out.1.drewN _, HN.out.1 trivial⟩
          case measure => simp [intOf]; omega
        · go_wp2
          go_quiet (fail)
          go_wp2
          try rw [Exit.noGoto_ret]
          go_ret
          exact ⟨by rw [HN.out.2 (by decide)]; rfl, HR.out.1.drewN _⟩
        · go_wp2
          go_quiet (fail)
          go_wp2
          try rw [Exit.noGoto_ret]
          go_ret
          exact ⟨by rw [HN.out.2 (by decide)]; rfl, HR.out.1.drewN _⟩
        · go_wp2
          go_quiet (fail)
          go_wp2
          go_roundw
          case rel => exact ⟨k + 1, by omega, by go_num, HR.out.1.drewN _, HN.out.1 trivial⟩
          case measure => simp [intOf]; omega
      · obtain rfl : k = a.length := by omega
        have heq : res = true := by
          rw [← HRES.out, beq_iff_eq]
          exact all_eq_of false HLE.out HR.out.2
        have HQ := Lib.hid heq
        clear heq
        go_wp2
        go_ret
        exact ⟨by rw [HQ.out]; rfl, HR.out.1⟩
  · have hl' : ((a.length : Int) != (b.length : Int)) = true := by simp; omega
    have HF : Hid ((a == b) = false) := by show _ = _; rw [beq_eq_false_iff_ne]; exact fun e => hl (by rw [e])
    clear hl
    generalize (a == b) = res at HF ⊢
    go_enter Try.func17, Try.ntmps17
    go_wp2
    go_ret
    exact ⟨by rw [HF.out]; rfl, Chg.refl _ _⟩
end Go.Proofs.Ytbeidiaejcbgoaa
