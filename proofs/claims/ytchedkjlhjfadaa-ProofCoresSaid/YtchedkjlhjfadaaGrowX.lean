/- slices.Grow of nothing, for the evaluator: numbers, and lists of numbers. Conditions: none. -/
import Derived.Test.YtchedkjlhjfadaaExtC2
import Derived.Test.YtchedkjlhjfadaaGrowS
import Derived.Test.YtchedkjlhjfadaaAbX6
set_option linter.unusedSimpArgs false
set_option linter.unusedVariables false
namespace Go.Proofs.Ytchedkjlhjfadaa
open Go Go.Ab Go.RowKit Go.Shelf
theorem grow_any {ρ : Ren} (L : Lays8.n4 Try.prog ρ) {i0 : TypeInfo} {z : Value} (hi0 : Try.prog.info? (ρ.t 25) = some i0) (hz0 : i0.zero = some z) (hs0 : i0.size = 1) (hb0 : i0.bytes ≤ 24) (hzl : z.cells.size = 1) (n : Nat) (hn : n ≤ 1000000) (w : World) :
    Calls Try.prog (ρ.f 4) #[.slice none 0 0, .int .i64 n] w fun e w' => ∃ v', e = .returned v' ∧ w'.ownsRow w.heap.size (ρ.t 25) 1 v' 0 [] ∧ Below w.heap.size w w' := by
  cases n with
  | zero =>
    refine (Any8.slices_Grow_room L none 0 0 0 w (Nat.le_refl _) (by decide) (by decide) (Nat.le_refl _)).mono ?_
    rintro e w' ⟨rfl, rfl⟩
    exact ⟨_, rfl, ⟨rfl, .inl ⟨rfl, rfl⟩⟩, Below.refl _ _⟩
  | succ n =>
    have hbig : (0 + (n + 1)) * i0.bytes ≤ 140737488355328 := by
      have := Nat.mul_le_mul (show 0 + (n + 1) ≤ 1000000 by omega) hb0
      omega
    refine (Any8.slices_Grow_grow L i0 z hi0 hz0 (by omega) none 0 0 (n + 1) [] w (Nat.le_refl _) (by omega) hbig (by omega) (by simp) (fun _ => rfl) (fun a h => by cases h)).mono ?_
    rintro e w' ⟨rfl, rfl⟩
    have hge := grownCap_ge w (0 + (n + 1)) 0 (ρ.t 25)
    have hle := grownCap_le_maxLen w (0 + (n + 1)) 0 (ρ.t 25) (by unfold maxLen; omega)
    generalize grownCap w (0 + (n + 1)) 0 (ρ.t 25) = cap at hge hle
    refine ⟨_, rfl, ⟨rfl, .inr ⟨w.heap.size, cap, ([] : List Value).toArray ++ Builtin.zeroCells z.cells (0 + (n + 1) - 0) ++ Builtin.zeroCells z.cells (cap - (0 + (n + 1))), rfl, Nat.le_refl _, ?_, Nat.zero_le _, hle, ?_, by simp⟩⟩, ((Below.refl w.heap.size w).drew).alloc (Nat.le_refl _) _⟩
    · show (w.drew.heap.push _)[w.heap.size]? = _
      rw [show w.heap.size = w.drew.heap.size from rfl, Array.getElem?_push_size]
    · have hzc : ∀ k, (Builtin.zeroCells z.cells k).size = k := by
        intro k
        have := size_zeroCells z.cells k
        rw [this, hzl]; omega
      simp only [Array.size_append, hzc, List.size_toArray, List.length_nil]
      omega
theorem info_of {t : TypeId} (h : ((Try.prog.info? t).bind fun i => i.zero.map fun z => decide (i.size = 1) && (decide (i.bytes ≤ 24) && decide (z.cells.size = 1))) = some true) : ∃ i0 z, Try.prog.info? t = some i0 ∧ i0.zero = some z ∧ i0.size = 1 ∧ i0.bytes ≤ 24 ∧ z.cells.size = 1 := by
  cases hi : Try.prog.info? t with
  | none => rw [hi] at h; cases h
  | some i =>
    rw [hi] at h
    simp only [Option.bind_some] at h
    cases hz : i.zero with
    | none => rw [hz] at h; cases h
    | some z =>
      rw [hz] at h
      simp only [Option.map_some, Option.some.injEq, Bool.and_eq_true, decide_eq_true_eq] at h
      exact ⟨i, z, rfl, hz, h.1, h.2.1, h.2.2⟩
theorem grow_call {t : TypeId} {f : Nat} {n : Int} {w : World} {Im : Imm} (hc : ∀ (n : Nat), n ≤ 1000000 → ∀ w, Calls Try.prog f #[.slice none 0 0, .int .i64 n] w fun e w' => ∃ v', e = .returned v' ∧ w'.ownsRow w.heap.size t 1 v' 0 [] ∧ Below w.heap.size w w') (h0 : 0 ≤ n) (h1 : n ≤ 1000000) (hH : HR Try.prog w Im [] []) :
    Calls Try.prog f #[.slice none 0 0, .int .i64 n] w (CallPost Try.prog w Im [] (.ret (.grow 0 0 [])) [.grow 0 1]) := by
  obtain ⟨k, rfl⟩ : ∃ k : Nat, n = (k : Int) := ⟨n.toNat, by omega⟩
  refine (hc k (by omega) w).mono ?_
  rintro e w' ⟨v', rfl, ho, hbl⟩
  exact own_post hH.im (rows := []) (fun row h => by cases h) (fun k u x h hx => by simp at hx) ho hbl
def growsF (f : Nat) : Bool := decide (f = 80) || decide (f = 94)
theorem grows_ok : Grows Try.prog growsF := by
  intro f hf
  unfold growsF at hf
  rw [Bool.or_eq_true, decide_eq_true_eq, decide_eq_true_eq] at hf
  rcases hf with rfl | rfl
  · obtain ⟨i0, z, k1, k2, k3, k4, k5⟩ := info_of (t := Try.growI_ren.t 25) (by kernel_rfl)
    exact ⟨enter_of Try.func80 (by kernel_rfl) rfl, fun n w Im h0 h1 hH => grow_call (fun n hn w => grow_any Try.growI k1 k2 k3 k4 k5 n hn w) h0 h1 hH⟩
  · obtain ⟨i0, z, k1, k2, k3, k4, k5⟩ := info_of (t := Try.growL_ren.t 25) (by kernel_rfl)
    exact ⟨enter_of Try.func94 (by kernel_rfl) rfl, fun n w Im h0 h1 hH => grow_call (fun n hn w => grow_any Try.growL k1 k2 k3 k4 k5 n hn w) h0 h1 hH⟩
end Go.Proofs.Ytchedkjlhjfadaa
