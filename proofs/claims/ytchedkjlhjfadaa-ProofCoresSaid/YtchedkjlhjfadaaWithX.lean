/- cnf.Resolve's closure, walked: a clause without a literal, in memory of its own. Conditions: numbers in memory. -/
import Derived.Test.YtchedkjlhjfadaaCloneI
import Derived.Test.YtchedkjlhjfadaaSortS
import Derived.Test.YtchedkjlhjfadaaExtC1
set_option linter.unusedSimpArgs false
set_option linter.unusedVariables false
namespace Go.Proofs.Ytchedkjlhjfadaa
open Go Go.RowKit Go.Lib Go.Sort
theorem news_at {l : List Int} {j : Nat} {u : Value} (h : (l.map (Value.int .i64))[j]? = some u) : ∃ x, l[j]? = some x ∧ u = Value.int .i64 x := by
  rw [List.getElem?_map] at h
  cases hx : l[j]? with
  | none => rw [hx] at h; cases h
  | some x => rw [hx] at h; cases h; exact ⟨x, rfl, rfl⟩
theorem isv_any (vb : Nat) (v y : Int) (W : World) (h : W.cell? ⟨vb, 0, none⟩ = some (.int .i64 v)) : Calls Try.prog 103 #[.int .i64 y, .pointer (some ⟨vb, 0, none⟩)] W fun e w' => e = .returned (.bool (decide (y = v))) ∧ w' = W := by
  go_enter Try.func103, Try.ntmps103
  go_wp2
  go_ret
  exact ⟨rfl, rfl⟩
theorem zero_int : ∀ w, (zeroValue 3).run Try.prog w = .ok (Value.int .i64 0) w := by
  have h : (Try.prog.info? 3).bind (·.zero) = some (Value.int .i64 0) := by kernel_rfl
  intro w
  cases hi : Try.prog.info? 3 with
  | none => rw [hi] at h; cases h
  | some i =>
    rw [hi] at h
    simp only [Option.bind_some] at h
    simp [zeroValue, typeInfo, hi, h]
set_option maxHeartbeats 2000000 in
theorem without_any (b o c : Nat) (l : List Int) (v : Int) (w : World) (hne : l ≠ []) (hl : l.length ≤ 1000000) (hat : ∀ (j : Nat) (x : Int), l[j]? = some x → w.cell? ⟨b, o + j, none⟩ = some (Value.int .i64 x)) :
    Calls Try.prog 100 #[.slice (some ⟨b, o, none⟩) l.length c, .int .i64 v] w fun e w' => ∃ v', e = .returned v' ∧ w'.ownsRow w.heap.size 3 1 v' (l.filter fun x => !decide (x = v)).length ((l.filter fun x => !decide (x = v)).map (Value.int .i64)) ∧ Below w.heap.size w w' := by
  have hl0 : 0 < l.length := List.length_pos_iff.2 hne
  have HA := Lib.hid hat
  clear hat
  go_enter Try.func100, Try.ntmps100
  go_wp2_with (go_at_call 101)
  refine (cloneI_some ⟨b, o, none⟩ l.length c (l.map (Value.int .i64)) _ (by simp) hl0 hl (fun j u h => ?_) (fun u h => ?_)).mono ?_
  · obtain ⟨x, hx, rfl⟩ := news_at h
    rw [show (⟨b, o, none⟩ : Addr).add j = ⟨b, o + j, none⟩ from by unfold Addr.add; split <;> simp_all]
    exact Lib.cell?_alloc_some _ (HA.out j x hx)
  · obtain ⟨j, hj⟩ := List.getElem?_of_mem h
    obtain ⟨x, _, rfl⟩ := news_at hj
    rfl
  rintro e w1 ⟨gb, cap, cur, rfl, hc0⟩
  have HC := Lib.hid hc0
  clear hc0
  go_wp2_with (go_at_call 102)
  have hc := HC.out
  have hvb : w1.cell? ⟨w.heap.size, 0, none⟩ = some (Value.int .i64 v) := by
    have h1 := hc.below.cell (p := ⟨w.heap.size, 0, none⟩) (by show w.heap.size < (w.heap.push _).size; simp)
    rw [h1, cell_of_row _ _ 0 _ _ (0, 0) (heap_alloc_new w _)]
    rfl
  have hne2 : w.heap.size ≠ gb := by
    have := hc.base
    have h2 : (w.alloc (.cells #[Value.int .i64 v] 3)).heap.size = w.heap.size + 1 := by show (w.heap.push _).size = _; simp
    omega
  have hvlt : w.heap.size < w1.heap.size := World.block_lt_of_cell? w1 ⟨w.heap.size, 0, none⟩ hvb
  have eg : ∀ args w, (callFunc 103 args).run Try.prog w = .ok (.enter 103 args) w := enters_of Try.func103 (by kernel_rfl) rfl
  have hval : ∀ (j : Nat), j < l.length → cur[j]? = some (Value.int .i64 l[j]!) := by
    intro j hj
    have h2 := congrArg (fun m => m[j]?) hc.take
    simp only [List.getElem?_map, List.getElem?_eq_getElem hj, Option.map_some] at h2
    rw [List.getElem?_take, if_pos hj] at h2
    rw [getElem!_pos l j hj]
    simpa using h2
  have hH : Holds (Value.int .i64) w1 gb 0 l.toArray := by
    intro j hj
    have hj' : j < l.length := by simpa using hj
    rw [Nat.zero_add]
    refine ⟨?_, by simp [World.frozen?, hc.block]⟩
    rw [cell_of_row w1 gb j cur _ (0, 0) hc.block, hval j hj']
    congr 2
    rw [getElem!_pos l j hj', getElem!_pos l.toArray j hj]
    simp
  have hb : w1.heap[gb]? = some (.cells ⟨cur.toList⟩ 3 (0, 0)) := hc.block
  have hcon := Try.slices_DeleteFunc (Value.int .i64) (fun _ => rfl) (fun y : Int => decide (y = v)) 103 #[.pointer (some ⟨w.heap.size, 0, none⟩)] eg 0 zero_int gb 0 cap l.toArray w1
    (fun W x hW => (isv_any w.heap.size v x W (by rw [hW.cell hvlt]; exact hvb)).mono fun e w' ⟨h1, h2⟩ => ⟨h1, 0, h2⟩)
    (fun n os dk x hdk => (isv_any w.heap.size v x _ (by
      unfold World.cell? at hvb ⊢
      rw [(sort_world (n := n) (d' := dk) (os := os) hb).2.1 w.heap.size hvlt hne2]
      exact hvb)).mono fun e w' ⟨h1, h2⟩ => ⟨h1, 0, h2⟩)
    hH (by simp; omega) (by simpa using hc.fit)
  simp only [List.size_toArray, List.toList_toArray] at hcon
  refine hcon.mono ?_
  clear hcon
  rintro e w2 ⟨rfl, q, hw2⟩
  have HW := Lib.hid hw2
  have HB := Lib.hid hb
  have HH := Lib.hid hc
  clear hw2 hb hc HC hvb hne2 hvlt eg hval hH HA
  generalize hk : (l.filter fun x => !decide (x = v)) = fl at HW ⊢
  have HF := Lib.hid hk
  clear hk
  go_wp2
  go_ret
  rw [HF.out]
  have hb := HB.out
  have hc := HH.out
  have hfl : fl.length ≤ l.length := by rw [← HF.out]; exact List.length_filter_le _ _
  have hw2 : w2 = sortWorld (Value.int .i64) w1 gb 0 q (fl ++ List.replicate (l.length - fl.length) 0).toArray #[] := by
    rw [HW.out]
    exact (grow_empty _).symm
  obtain ⟨k1, k2, k3⟩ := sort_world (n := q) (d' := (fl ++ List.replicate (l.length - fl.length) 0).toArray) (os := #[]) hb
  rw [← hw2] at k1 k2 k3
  have hbw : (w.alloc (.cells #[Value.int .i64 v] 3)).heap.size = w.heap.size + 1 := by show (w.heap.push _).size = _; simp
  have hbase := hc.base
  refine ⟨_, rfl, ⟨by simp, .inr ⟨gb, cap, _, rfl, by omega, k1, by have := hc.fit; omega, hc.most, ?_, ?_⟩⟩, ?_⟩
  · unfold putCells
    have := hc.size
    simpa using this
  · apply List.ext_getElem?
    intro i
    rw [List.getElem?_take, Array.getElem?_toList]
    unfold putCells
    rw [Array.getElem?_mapIdx, List.getElem?_map]
    by_cases hi : i < fl.length
    · have hic : i < cur.size := by have := hc.size; have := hc.fit; omega
      rw [if_pos (by omega), List.getElem?_eq_getElem hi]
      have hcu : (⟨cur.toList⟩ : Array Value)[i]? = some cur[i] := by simp [hic]
      rw [hcu]
      simp only [Option.map_some, Option.some.injEq, List.size_toArray, List.length_append, List.length_replicate]
      rw [if_pos ⟨Nat.zero_le _, by omega⟩]
      congr 1
      rw [Nat.sub_zero, getElem!_pos _ i (by simp; omega)]
      simp [List.getElem_append, hi]
    · rw [if_neg (by omega), List.getElem?_eq_none (by omega)]
      rfl
  · have b1 := (RowKit.Below.refl w.heap.size w).alloc (Nat.le_refl _) (.cells #[Value.int .i64 v] 3)
    have b2 := b1.trans (hc.below.mono b1.size)
    refine b2.trans ⟨?_, ?_, ?_, k3, fun k hk => k2 k (Nat.lt_of_lt_of_le hk b2.size) (by omega)⟩
    all_goals (rw [hw2]; rfl)
end Go.Proofs.Ytchedkjlhjfadaa
