/- The document's models, by trying all lists of truths: walked. Conditions: a formula in memory. -/
import Derived.Test.YtbeidiaejcbgoaaLaw15b
import Derived.Test.YtbeidiaejcbgoaaModels1
namespace Go.Proofs.Ytbeidiaejcbgoaa
open Go.RowKit

/-- The i-th list of n truths. -/
def bitsL (n i : Nat) : List Bool := (List.range n).map fun k => decide (i / 2 ^ (n - 1 - k) % 2 = 1)

theorem bitsL_length (n i : Nat) : (bitsL n i).length = n := by simp [bitsL]

theorem range_double (N : Nat) : List.range (2 * N) = List.range N ++ (List.range N).map (N + ·) := by
  rw [Nat.two_mul, List.range_add]

theorem bitsL_low {n i : Nat} (h : i < 2 ^ n) : bitsL (n + 1) i = false :: bitsL n i := by
  unfold bitsL
  rw [List.range_succ_eq_map, List.map_cons, List.map_map]
  congr 1
  · simp
    rw [Nat.div_eq_of_lt (by simpa using h)]
  · refine List.map_congr_left fun k hk => ?_
    have := List.mem_range.1 hk
    simp only [Function.comp]
    rw [show n + 1 - 1 - (k + 1) = n - 1 - k by omega]
theorem bitsL_high {n i : Nat} (h : i < 2 ^ n) : bitsL (n + 1) (2 ^ n + i) = true :: bitsL n i := by
  unfold bitsL
  rw [List.range_succ_eq_map, List.map_cons, List.map_map]
  congr 1
  · simp only [Nat.add_sub_cancel, Nat.sub_zero]
    have : (2 ^ n + i) / 2 ^ n = 1 := by
      rw [Nat.add_div_left _ (Nat.two_pow_pos n), Nat.div_eq_of_lt h]
    rw [this]; rfl
  · refine List.map_congr_left fun k hk => ?_
    have hk := List.mem_range.1 hk
    simp only [Function.comp]
    rw [show n + 1 - 1 - (k + 1) = n - 1 - k by omega]
    have h2 : 2 ^ n = 2 ^ (n - 1 - k) * (2 * 2 ^ k) := by
      rw [show 2 * 2 ^ k = 2 ^ (k + 1) by rw [Nat.pow_succ]; omega, ← Nat.pow_add]; congr 1; omega
    rw [h2, Nat.mul_add_div (Nat.two_pow_pos _), Nat.mul_add_mod]

theorem bits_all : ∀ n, (List.range (2 ^ n)).map (bitsL n) = allM n
  | 0 => by simp [bitsL, allM]
  | n + 1 => by
    rw [Nat.pow_succ, Nat.mul_comm, range_double, List.map_append, List.map_map]
    simp only [allM]
    rw [← bits_all n, List.map_map, List.map_map]
    congr 1
    · refine List.map_congr_left fun i hi => ?_
      exact bitsL_low (List.mem_range.1 hi)
    · refine List.map_congr_left fun i hi => ?_
      exact bitsL_high (List.mem_range.1 hi)

set_option maxHeartbeats 1000000 in
theorem bits_any (n i : Nat) (w : World) (hn : n ≤ 12) (hi : i < 4096) :
    Calls Try.prog 32 #[.int .i64 i, .int .i64 n] w fun e w' => ∃ arr, e = .returned (.slice (some ⟨w.heap.size, 0, none⟩) n n) ∧ Chg (fun _ => False) w w' ∧
      w'.heap[w.heap.size]? = some (.cells arr 4 (0, 0)) ∧ arr.size = n ∧ ∀ k, k < n → arr[k]? = some (.bool ((bitsL n i)[k]?.getD false)) := by
  obtain ⟨i0, hinf, hz0, hz1, hz2⟩ := info_parts infoBool
  go_enter Try.func32, Try.ntmps32
  go_wp2_with (at_make; refine wpList_make_full _ rfl _ _ 25 rfl w.heap.size 4 i0 (.bool false) 1 Try.underlying25 hinf hz0 hz1 .i64 .i64 n n n rfl rfl rfl rfl ?c1 ?c2 (Nat.le_refl _) ?_)
  case c1 => rw [hz2]; omega
  case c2 => simp [maxLen]; omega
  intro w1 hown hgr
  obtain ⟨arr0, hh0, hs0, _⟩ := ownsRow_heap hown
  have hg1 : Chg (fun _ => False) w w1 := (Chg.refl _ w).grown hgr (fun k hk => by cases hk)
  have H1 := Lib.hid (And.intro hh0 (And.intro hs0 hg1))
  clear hown hgr hinf hz0 hz1 hz2 hh0 hs0 hg1
  go_wp2
  go_loopw [0, 6] (fun q j wr => ∃ (k : Nat) (x : Nat) (arr : Array Value), k ≤ n ∧ j = .int .i64 ((k : Int) - 1) ∧ q = .int .i64 x ∧ x < 4096 ∧ Hid (x = i / 2 ^ (n - k) ∧ Chg (fun _ => False) w wr ∧ wr.heap[w.heap.size]? = some (.cells arr 4 (0, 0)) ∧ arr.size = n ∧ ∀ m, k ≤ m → m < n → arr[m]? = some (.bool ((bitsL n i)[m]?.getD false)))) (fun _ j _ => (intOf j + 1).toNat)
  case atStart =>
    obtain ⟨h1, h2, h3⟩ := H1.out
    exact ⟨n, i, arr0, Nat.le_refl _, rfl, rfl, hi, by simp, h3, h1, h2, fun m h h' => by omega⟩
  case round =>
    obtain ⟨k, x, arr, hk, rfl, rfl, hx, HR⟩ := hrel
    cases k with
    | zero =>
      clear hx
      go_wp2
      go_ret
      obtain ⟨_, h3, h1, h2, h4⟩ := HR.out
      exact ⟨arr, rfl, h3, h1, h2, fun m hm => h4 m (Nat.zero_le _) hm⟩
    | succ j =>
      obtain ⟨hxe, hcg, hh, hs, hv⟩ := HR.out
      have dg : wr.cell? ⟨w.heap.size, j, none⟩ = arr[j]? := cell_of_heap hh j
      rw [Array.getElem?_eq_getElem (by omega)] at dg
      have df := frozen_of_heap hh j
      generalize arr[j] = a0 at dg
      have hbit : ((bitsL n i)[j]?.getD false) = decide (x % 2 = 1) := by
        unfold bitsL
        simp [show j < n by omega]
        rw [hxe, show n - 1 - j = n - (j + 1) by omega]
      have hdiv : x / 2 = i / 2 ^ (n - j) := by
        rw [hxe, Nat.div_div_eq_div_mul, show n - j = n - (j + 1) + 1 by omega, Nat.pow_succ]
      have HX := Lib.hid (And.intro hcg (And.intro hh (And.intro hs (And.intro hv (And.intro hbit hdiv)))))
      clear hxe hcg hh hs hv hbit hdiv HR
      go_wp2
      obtain ⟨hcg, hh, hs, hv, hbit, hdiv⟩ := HX.out
      go_roundw
      case rel =>
        refine ⟨j, x / 2, arr.setIfInBounds j (.bool ((x : Int) % 2 == 1)), by omega, by go_num, by go_num, by omega, hdiv, hcg.setCell (p := ⟨w.heap.size, j, none⟩) (fun h => absurd h (Nat.lt_irrefl _)) _, heap_setCell_at hh _, by simp [hs], ?_⟩
        intro m h1 h2
        rw [Array.getElem?_setIfInBounds]
        by_cases e : j = m
        · subst e
          rw [if_pos rfl, if_pos (by rw [hs]; omega), hbit]
          congr 2
          rw [Bool.eq_iff_iff]; simp; omega
        · rw [if_neg e]; exact hv m (by omega) h2
      case measure => simp [intOf]
end Go.Proofs.Ytbeidiaejcbgoaa
