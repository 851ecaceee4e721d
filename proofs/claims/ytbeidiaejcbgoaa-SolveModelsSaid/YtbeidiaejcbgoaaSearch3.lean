/- solve: open, model, back walked. Conditions: a search object in memory. -/
import Derived.Test.YtbeidiaejcbgoaaSearch2
namespace Go.Proofs.Ytbeidiaejcbgoaa
open Go.RowKit

set_option maxHeartbeats 1000000 in
theorem index_some (l : List Int) (lb lo lc : Nat) (v : Int) (w : World) (hlen : l.length ≤ 1000000000)
    (hl : ∀ i, i < l.length → w.cell? ⟨lb, lo + i, none⟩ = some (.int .i64 (l[i]?.getD 0))) :
    Calls Try.prog 61 #[.slice (some ⟨lb, lo, none⟩) l.length lc, .int .i64 v] w fun e w' => e = .returned (.int .i64 (indexZ l v)) ∧ w = w' := by
  have HL := Lib.hid hl
  clear hl
  generalize hres : indexZ l v = res
  have HRES := Lib.hid hres
  clear hres
  go_enter Try.func61, Try.ntmps61
  go_wp2
  go_loop [5, 8] (fun _ i => ∃ (k : Nat), k ≤ l.length ∧ i = .int .i64 k ∧ Hid ((if indexZ (l.drop k) v < 0 then -1 else indexZ (l.drop k) v + k) = res)) (fun _ i => l.length - (intOf i).toNat)
  case atStart => exact ⟨0, Nat.zero_le _, rfl, by
    show _ = _
    rw [← HRES.out]; have := indexZ_lo l v; simp; omega⟩
  case round =>
    obtain ⟨k, hk, rfl, HR⟩ := hrel
    by_cases hlt : k < l.length
    · have hcell := HL.out k hlt
      have hD := HR.out
      rw [List.drop_eq_getElem_cons hlt, show l[k] = l[k]?.getD 0 by simp [hlt]] at hD
      generalize l[k]?.getD 0 = y at hcell hD
      have HD := Lib.hid hD
      clear hD
      go_wp2
      · have h1 : (v == y) = true := by assumption
        go_ret
        have := HD.out
        simp only [indexZ, if_pos (show v = y by simpa using h1)] at this
        exact ⟨ret_int (by simpa using this), rfl⟩
      · have h1 : (v == y) = false := by assumption
        go_round
        case rel =>
          refine ⟨k + 1, by omega, by go_num, ?_⟩
          have := HD.out
          simp only [indexZ, if_neg (show ¬ v = y by simpa using h1)] at this
          have h2 := indexZ_lo (l.drop (k+1)) v
          show _ = _
          rw [← this]
          split <;> split <;> (try split) <;> omega
        case measure => simp [intOf]; omega
    · have hk' : k = l.length := by omega
      subst hk'
      have hD := HR.out
      rw [List.drop_length] at hD
      simp [indexZ] at hD
      subst hD
      clear HR HRES
      go_wp2
      go_ret
      exact ⟨rfl, rfl⟩

theorem index_nil (a : Option Addr) (cc : Nat) (v : Int) (w : World) :
    Calls Try.prog 61 #[.slice a 0 cc, .int .i64 v] w fun e w' => e = .returned (.int .i64 (-1)) ∧ w = w' := by
  go_enter Try.func61, Try.ntmps61
  go_wp2
  refine wp_loop_rounds 1 ?_
  rw [rounds_succ]
  go_wp2
  go_ret
  exact ⟨rfl, rfl⟩

set_option maxHeartbeats 1000000 in
theorem open_any {w : World} {B b vb : Nat} {tv : Value} {n : Nat} {Lv : Value} {val : Nat → Int} {tr : List (Int × Int)} {st : Int} (h : Srch w B b vb tv n Lv val tr st) :
    Calls Try.prog 49 #[.pointer (some ⟨b, 0, none⟩)] w fun e w' => e = .returned (.int .i64 (openZ val n)) ∧ w = w' := by
  have hlo := openZ_lo val n
  have hhi := openZ_hi val n
  have hsm := h.small
  by_cases hn : n = 0
  · subst hn
    have c2 := h.c2
    go_enter Try.func49, Try.ntmps49
    go_wp2_with (go_at_call 61; refine (index_nil _ _ _ _).mono ?_; rintro e w' ⟨rfl, rfl⟩)
    go_ret
    exact ⟨rfl, rfl⟩
  · have c2 := h.c2
    have hi := index_some ((List.range n).map fun i => val (i + 1)) vb 1 n 0 w (by simp; omega) (by
      intro i hi
      simp at hi
      rw [Nat.add_comm, h.cv (i+1) (by omega)]
      simp [hi])
    have ho : indexZ ((List.range n).map fun i => val (i + 1)) 0 = openZ val n - 1 := by unfold openZ; omega
    rw [ho, List.length_map, List.length_range] at hi
    generalize openZ val n = o at *
    have HI := Lib.hid hi
    clear hi ho
    go_enter Try.func49, Try.ntmps49
    go_wp2_with (go_at_call 61; refine HI.out.mono ?_; rintro e w' ⟨rfl, rfl⟩)
    go_ret
    exact ⟨ret_int (by omega), rfl⟩

theorem infoBool : (Try.prog.info? 4).map (fun i => (i.zero, i.size, i.bytes)) = some (some (.bool false), 1, 1) := by kernel_rfl


/-- A row that was just made, as a block. -/
theorem ownsRow_heap {w : World} {base : Nat} {e : TypeId} {g n cap : Nat} {xs : List Value} (h : w.ownsRow base e 1 (.slice (some ⟨g, 0, none⟩) n cap) n xs) :
    ∃ arr, w.heap[g]? = some (.cells arr e (0, 0)) ∧ arr.size = cap ∧ arr.toList.take n = xs := by
  rcases h.2 with ⟨hv, _⟩ | ⟨g', cap', cur, hv, _, hh, _, _, hs, ht⟩
  · cases hv
  · cases hv
    exact ⟨cur, hh, by omega, by simpa using ht⟩

set_option maxHeartbeats 1000000 in
theorem model_any {w : World} {B b vb : Nat} {tv : Value} {n : Nat} {Lv : Value} {val : Nat → Int} {tr : List (Int × Int)} {st : Int} (h : Srch w B b vb tv n Lv val tr st) :
    Calls Try.prog 37 #[.pointer (some ⟨b, 0, none⟩)] w fun e w' => ∃ arr, e = .returned (.slice (some ⟨w.heap.size, 0, none⟩) n n) ∧ Chg (fun _ => False) w w' ∧
      w'.heap[w.heap.size]? = some (.cells arr 4 (0, 0)) ∧ arr.size = n ∧ ∀ i, i < n → arr[i]? = some (.bool (decide (0 < val (i + 1)))) := by
  obtain ⟨i0, hinf, hz0, hz1, hz2⟩ := info_parts infoBool
  have c0 := h.c0
  have hsm := h.small
  go_enter Try.func37, Try.ntmps37
  go_wp2_with (at_make; refine wpList_make_full _ rfl _ _ 25 rfl w.heap.size 4 i0 (.bool false) 1 Try.underlying25 hinf hz0 hz1 .i64 .i64 n n n rfl rfl rfl rfl ?c1 ?c2 (Nat.le_refl _) ?_)
  case c1 => rw [hz2]; omega
  case c2 => simp [maxLen]; omega
  intro w1 hown hgr
  obtain ⟨arr0, hh0, hs0, _⟩ := ownsRow_heap hown
  have hg1 : Chg (fun _ => False) w w1 := (Chg.refl _ w).grown hgr (fun k hk => by cases hk)
  clear hown hgr hinf hz0 hz1 hz2
  go_wp2
  go_loopw [4, 13] (fun _ i wr => ∃ (k : Nat) (arr : Array Value), k ≤ n ∧ i = .int .i64 k ∧ Hid (Chg (fun _ => False) w wr ∧ wr.heap[w.heap.size]? = some (.cells arr 4 (0, 0)) ∧ arr.size = n ∧ ∀ i, i < k → arr[i]? = some (.bool (decide (0 < val (i + 1)))))) (fun _ i _ => n - (intOf i).toNat)
  case atStart => exact ⟨0, arr0, Nat.zero_le _, rfl, hg1, hh0, hs0, fun i hi => absurd hi (Nat.not_lt_zero _)⟩
  case round =>
    obtain ⟨k, arr, hk, rfl, HR⟩ := hrel
    obtain ⟨hcg, hh, hs, hv⟩ := HR.out
    by_cases hlt : k < n
    · have hS := h.chg hcg (fun _ _ x => x)
      have d2 := hS.c2
      have dv := hS.cv (k + 1) (by omega)
      have dg : wr.cell? ⟨w.heap.size, k, none⟩ = arr[k]? := cell_of_heap hh k
      rw [Array.getElem?_eq_getElem (by omega)] at dg
      have df := frozen_of_heap hh k
      generalize arr[k] = a0 at dg
      generalize hval : val (k + 1) = z at dv
      have HV := Lib.hid hv
      have HH := Lib.hid hh
      have HS := Lib.hid hs
      have HZ := Lib.hid hval
      clear hv hh hs hval hS hg1 hh0 hs0
      go_wp2
      go_roundw
      case rel =>
        refine ⟨k + 1, arr.setIfInBounds k (.bool (decide (0 < z))), by omega, by go_num, hcg.setCell (p := ⟨w.heap.size, k, none⟩) (fun h => absurd h (Nat.lt_irrefl _)) _, heap_setCell_at HH.out _, by simp [HS.out], ?_⟩
        intro i hi
        rw [Array.getElem?_setIfInBounds]
        by_cases e : k = i
        · subst e
          rw [if_pos rfl, if_pos (by rw [HS.out]; exact hlt), HZ.out]
        · rw [if_neg e]; exact HV.out i (by omega)
      case measure => simp [intOf]; omega
    · obtain rfl : k = n := by omega
      clear hcg hh hs hv hh0 hs0
      go_wp2
      go_ret
      obtain ⟨hcg, hh, hs, hv⟩ := HR.out
      exact ⟨arr, rfl, hcg, hh, hs, hv⟩

end Go.Proofs.Ytbeidiaejcbgoaa
