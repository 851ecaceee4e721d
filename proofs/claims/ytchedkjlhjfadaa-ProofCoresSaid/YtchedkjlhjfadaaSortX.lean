/- cnf.order, walked; sorting by it. Conditions: numbers in memory. -/
import Derived.Test.YtchedkjlhjfadaaUtil
import Derived.Test.YtchedkjlhjfadaaSortS
set_option linter.unusedSimpArgs false
set_option linter.unusedVariables false
namespace Go.Proofs.Ytchedkjlhjfadaa
open Go Go.RowKit Go.Lib Go.Sort
def orI2 (x y : Int) : Int := if x = 0 then y else x
set_option maxHeartbeats 1000000 in
theorem or_any (b o : Nat) (x y : Int) (c : Nat) (w : World) (h : ∀ i, i < 2 → w.cell? ⟨b, o + i, none⟩ = some (.int .i64 (if i = 0 then x else y))) :
    Calls Try.prog 110 #[.slice (some ⟨b, o, none⟩) 2 c] w fun e w' => e = .returned (.int .i64 (orI2 x y)) ∧ w = w' := by
  have HL := Lib.hid h
  clear h
  generalize hres : orI2 x y = res
  have HRES := Lib.hid hres
  clear hres
  go_enter Try.func110, Try.ntmps110
  go_wp2
  go_loop [8] (fun i => ∃ (k : Nat), k ≤ 2 ∧ i = .int .i64 k ∧ Hid ((k = 0 → orI2 x y = res) ∧ (k = 1 → y = res) ∧ (k = 2 → (0 : Int) = res))) (fun i => 2 - (intOf i).toNat)
  case atStart => exact ⟨0, Nat.zero_le _, rfl, ⟨fun _ => HRES.out, by simp, by simp⟩⟩
  case round =>
    obtain ⟨k, hk, rfl, HR⟩ := hrel
    by_cases hlt : k < 2
    · have hcell := HL.out k hlt
      have hz : ∃ u : Int, (if k = 0 then x else y) = u ∧ Hid (u ≠ 0 → u = res) ∧ Hid (u = 0 → (k + 1 = 1 → y = res) ∧ (k + 1 = 2 → (0 : Int) = res)) := by
        obtain ⟨h0, h1, _⟩ := HR.out
        by_cases hk0 : k = 0
        · subst hk0
          refine ⟨x, rfl, fun hu => ?_, fun hu => ⟨fun _ => ?_, by omega⟩⟩
          · have := h0 rfl; unfold orI2 at this; rw [if_neg hu] at this; exact this
          · have := h0 rfl; unfold orI2 at this; rw [if_pos hu] at this; exact this
        · have hk1 : k = 1 := by omega
          subst hk1
          refine ⟨y, rfl, fun _ => h1 rfl, fun hu => ⟨by omega, fun _ => ?_⟩⟩
          rw [← h1 rfl]; exact hu.symm
      obtain ⟨u, hu, HA, HB⟩ := hz
      rw [hu] at hcell
      clear hu
      by_cases h0 : u = 0
      · subst h0
        have HN := Lib.hid (HB.out rfl)
        clear HA HB
        go_wp2
        go_round
        case rel => exact ⟨k + 1, by omega, by go_num, ⟨by omega, HN.out.1, HN.out.2⟩⟩
        case measure => simp [intOf]; omega
      · have HN := Lib.hid (HA.out h0)
        clear HA HB
        go_wp2
        go_ret
        exact ⟨ret_int HN.out, rfl⟩
    · have hk2 : k = 2 := by omega
      have HN := Lib.hid (HR.out.2.2 hk2)
      clear HR
      go_wp2
      go_ret
      exact ⟨ret_int HN.out, rfl⟩
def keyZ (x : Int) : Int := max x (Go.RowKit.wrap64 (-x))
def ordZ (x y : Int) : Int := orI2 (Lib.compareInt (keyZ x) (keyZ y)) (Lib.compareInt y x)
theorem cmp_any (p q : Int) (W : World) : Calls Try.prog 111 #[.int .i64 p, .int .i64 q] W fun e w' => (∃ r, e = .returned (.int .i64 r) ∧ Hid (r = Lib.compareInt p q)) ∧ w' = W := (Try.cmp_Compare_int p q W).mono fun _ _ ⟨h1, h2⟩ => ⟨⟨_, h1, rfl⟩, h2⟩
theorem ordZ_eq (x y : Int) : ordZ x y = orI2 (Lib.compareInt (max x (Go.RowKit.wrap64 (-x))) (max y (Go.RowKit.wrap64 (-y)))) (Lib.compareInt y x) := rfl
set_option maxHeartbeats 1000000 in
theorem order_any (x y : Int) (w : World) : Calls Try.prog 106 #[.int .i64 x, .int .i64 y] w fun e w' => e = .returned (.int .i64 (ordZ x y)) ∧ ∃ q os', w' = Go.Sort.grow (w.drewN q) os' := by
  generalize hres : ordZ x y = res
  have HR := Lib.hid hres
  clear hres
  go_enter Try.func106, Try.ntmps106
  go_wp2_with (go_at_call 110)
  have HR1 := HR.out
  rw [ordZ_eq] at HR1
  generalize max x (Go.RowKit.wrap64 (-x)) = p at HR1 ⊢
  generalize max y (Go.RowKit.wrap64 (-y)) = q at HR1 ⊢
  have HR2 := Lib.hid HR1
  clear HR1 HR
  refine (cmp_any p q _).mono ?_
  rintro e w' ⟨⟨u, rfl, HU⟩, rfl⟩
  have HR3 := HR2.out
  rw [← HU.out] at HR3
  have HR4 := Lib.hid HR3
  clear HR3 HR2 HU
  go_wp2_with (go_at_call 110)
  refine (cmp_any y x _).mono ?_
  rintro e w' ⟨⟨v, rfl, HV⟩, rfl⟩
  have HR5 := HR4.out
  rw [← HV.out] at HR5
  have HR6 := Lib.hid HR5
  clear HR5 HR4 HV
  go_wp2_with (go_at_call 111)
  refine (or_any _ 0 u v _ _ ?hc).mono ?_
  case hc =>
    intro i hi
    rw [cell_of_row _ _ (0 + i) _ _ (0, 0) (heap_alloc_new _ _)]
    have hi2 : i = 0 ∨ i = 1 := by omega
    rcases hi2 with rfl | rfl <;> rfl
  rintro e w' ⟨rfl, rfl⟩
  have HR7 := HR6.out
  subst HR7
  clear HR6
  go_wp2
  go_ret
  exact ⟨rfl, 0, _, alloc_eq_grow _ _⟩
theorem ltZ (x y : Int) : ltOf ordZ x y = (decide (keyZ x < keyZ y) || (decide (keyZ x = keyZ y) && decide (y < x))) := by
  unfold ltOf ordZ orI2 Lib.compareInt
  by_cases h1 : keyZ x < keyZ y
  · simp [h1]
  · by_cases h2 : keyZ y < keyZ x
    · have h3 : ¬ keyZ x = keyZ y := by omega
      simp [h1, h2, h3]
    · have h3 : keyZ x = keyZ y := by omega
      by_cases h4 : y < x
      · simp [h1, h2, h3, h4]
      · by_cases h5 : x < y <;> simp [h1, h2, h3, h4, h5]
theorem swoZ : SWO (ltOf ordZ) where
  irrefl x := by rw [ltZ]; simp
  trans x y z h1 h2 := by rw [ltZ] at *; simp at *; omega
  ntrans x y z h1 h2 := by rw [ltZ] at *; simp at *; omega
theorem totZ (x y : Int) (h1 : ltOf ordZ x y = false) (h2 : ltOf ordZ y x = false) : x = y := by rw [ltZ] at *; simp at *; omega
theorem sort_any (blk off cap : Nat) (d : Array Int) (w : World) (hH : Holds (Value.int .i64) w blk off d) (hblk : blk < w.heap.size) (hsz : d.size < 4611686018427387904) :
    Calls Try.prog 105 #[.slice (some ⟨blk, off, none⟩) d.size cap, .func (.func 106) #[] #[]] w fun e w' =>
      e = .returned (.tuple #[]) ∧ ∃ n os, w' = sortWorld (Value.int .i64) w blk off n (d.toList.mergeSort fun x y => !(ltOf ordZ) y x).toArray os :=
  Any.slices_SortFunc_total Try.sortL (Value.int .i64) (fun _ => rfl) ordZ swoZ 106 #[] blk off cap d w (enters_of Try.func106 (by kernel_rfl) rfl) (fun m os dk hs x y => order_any x y _) hH hblk hsz totZ
end Go.Proofs.Ytchedkjlhjfadaa
