/- The statements' own: 'alive' of layer 15 walked: it answers true. Conditions: none. -/
import Derived.Test.YtbeidiaejcbgoaaLaw14c
import Derived.Test.YtbeidiaejcbgoaaModels2
namespace Go.Proofs.Ytbeidiaejcbgoaa
open Go.RowKit

theorem alive_m1 : modelsOf 2 [[1, 2], [-1]] = [[false, true]] := by decide +kernel
theorem alive_m2 : modelsOf 1 [[1], [-1]] = [] := by decide +kernel

theorem sliceOf_block {D : Nat → Prop} {w : World} {b : Nat} {cs : List Value} {e : TypeId} {fz : Nat × Nat} (h : w.heap[b]? = some (.cells cs.toArray e fz)) (hD : D b) (hl : cs.length ≤ 9223372036854775807) (n : Nat) (hn : n = cs.length) :
    SliceOf D w (.slice (some ⟨b, 0, none⟩) n n) cs := by
  subst hn
  refine ⟨_, _, rfl, Nat.le_refl _, hl, .inr ⟨b, 0, rfl, hD, fun i hi => ?_⟩⟩
  rw [cell_of_heap h, Nat.zero_add]
  simp

theorem rows_two {w : World} {a b r : Nat} {e : TypeId} {l1 l2 : List Int} {n1 n2 : Nat} (ha : w.heap[a]? = some (.cells (l1.map (Value.int .i64)).toArray e (0, 0))) (hb : w.heap[b]? = some (.cells (l2.map (Value.int .i64)).toArray e (0, 0)))
    {e' : TypeId} (hr : w.heap[r]? = some (.cells #[.slice (some ⟨a, 0, none⟩) n1 n1, .slice (some ⟨b, 0, none⟩) n2 n2] e' (0, 0))) (h1 : n1 = l1.length) (h2 : n2 = l2.length) (h1' : n1 ≤ 1000) (h2' : n2 ≤ 1000) :
    IntRows (fun k => k = a ∨ k = b ∨ k = r) w (.slice (some ⟨r, 0, none⟩) 2 2) [l1, l2] := by
  refine ⟨[.slice (some ⟨a, 0, none⟩) n1 n1, .slice (some ⟨b, 0, none⟩) n2 n2], sliceOf_block hr (.inr (.inr rfl)) (by simp) 2 rfl, rfl, ?_⟩
  intro i hi
  match i, hi with
  | 0, _ => exact ⟨_, rfl, sliceOf_block ha (.inl rfl) (by simp; omega) n1 (by simpa using h1)⟩
  | 1, _ => exact ⟨_, rfl, sliceOf_block hb (.inr (.inl rfl)) (by simp; omega) n2 (by simpa using h2)⟩

/-- Three blocks laid one behind the other. -/
theorem three_blocks (w : World) (a b c : Obj) : (((w.alloc a).alloc b).alloc c).heap[w.heap.size]? = some a ∧ (((w.alloc a).alloc b).alloc c).heap[w.heap.size + 1]? = some b ∧ (((w.alloc a).alloc b).alloc c).heap[w.heap.size + 2]? = some c := by
  refine ⟨?_, ?_, ?_⟩
  · rw [Below.heap_alloc _ _ _ (by simp; omega), Below.heap_alloc _ _ _ (by simp)]; exact World.alloc_heap_new w a
  · rw [Below.heap_alloc _ _ _ (by simp)]; have := World.alloc_heap_new (w.alloc a) b; simpa using this
  · have := World.alloc_heap_new ((w.alloc a).alloc b) c; simpa using this

theorem solve_lit2 (w : World) (n : Int) (l1 l2 : List Int) (n1 n2 : Nat) (e e' : TypeId) (h1 : n1 = l1.length) (h2 : n2 = l2.length) (h1' : n1 ≤ 1000) (h2' : n2 ≤ 1000) (A B : Array Value) (hA : A = (l1.map (Value.int .i64)).toArray) (hB : B = (l2.map (Value.int .i64)).toArray) :
    Calls Try.prog 11 #[.agg #[.int .i64 n, .slice (some ⟨w.heap.size + 1 + 1, 0, none⟩) 2 2]] (((w.alloc (.cells A e)).alloc (.cells B e)).alloc (.cells #[.slice (some ⟨w.heap.size, 0, none⟩) n1 n1, .slice (some ⟨w.heap.size + 1, 0, none⟩) n2 n2] e'))
      fun en w' => Chg (fun _ => False) w w' ∧ SolvePost n [l1, l2] (((w.alloc (.cells A e)).alloc (.cells B e)).alloc (.cells #[.slice (some ⟨w.heap.size, 0, none⟩) n1 n1, .slice (some ⟨w.heap.size + 1, 0, none⟩) n2 n2] e')) en w' := by
  subst hA hB
  obtain ⟨b1, b2, b3⟩ := three_blocks w (.cells (l1.map (Value.int .i64)).toArray e) (.cells (l2.map (Value.int .i64)).toArray e) (.cells #[.slice (some ⟨w.heap.size, 0, none⟩) n1 n1, .slice (some ⟨w.heap.size + 1, 0, none⟩) n2 n2] e')
  refine (solve_any n _ [l1, l2] _ _ (rows_two b1 b2 b3 h1 h2 h1' h2') ?_).mono fun en w' h => ⟨((((Chg.refl _ _).alloc _).alloc _).alloc _).trans h.1, h⟩
  rintro k (rfl | rfl | rfl)
  · simp; omega
  · simp
  · simp

set_option maxHeartbeats 2000000 in
theorem alive_any (w : World) : Calls Try.prog 10 #[] w fun e w' => e = .returned (.bool true) ∧ Chg (fun _ => False) w w' := by
  go_enter Try.func10, Try.ntmps10
  go_wp2_with fail
  refine (solve_lit2 w 2 [1, 2] [-1] 2 1 _ _ rfl rfl (by omega) (by omega) _ _ rfl rfl).mono ?_
  rintro e w1 ⟨hc1, hp1⟩
  unfold SolvePost at hp1
  rw [alive_m1] at hp1
  obtain ⟨_, g, arr, rfl, hg, hh, hs, hv⟩ := hp1
  have v0 : w1.cell? ⟨g, 0, none⟩ = some (.bool false) := by rw [cell_of_heap hh]; exact hv 0 (by simp)
  have v1 : w1.cell? ⟨g, 1, none⟩ = some (.bool true) := by rw [cell_of_heap hh]; exact hv 1 (by simp)
  have H1 := Lib.hid hc1
  clear hc1 hg hh hs hv
  go_wp2_with fail
  refine (solve_lit2 w1 1 [1] [-1] 1 1 _ _ rfl rfl (by omega) (by omega) _ _ rfl rfl).mono ?_
  rintro e w2 ⟨hc2, hp2⟩
  unfold SolvePost at hp2
  rw [alive_m2] at hp2
  obtain ⟨_, rfl⟩ := hp2
  have u0 := hc2.cell' v0 id
  have u1 := hc2.cell' v1 id
  have H2 := Lib.hid (H1.out.trans hc2)
  clear hc2 v0 v1
  go_wp2
  go_ret
  exact ⟨rfl, H2.out⟩
end Go.Proofs.Ytbeidiaejcbgoaa
