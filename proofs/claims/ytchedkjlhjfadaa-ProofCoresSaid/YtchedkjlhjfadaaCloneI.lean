/- slices.Clone of numbers, by its walk: the new block, cell by cell. Conditions: none. -/
import Derived.Test.YtchedkjlhjfadaaUtil
import Derived.Shelf.SlicesE.Clone
set_option linter.unusedSimpArgs false
set_option linter.unusedVariables false
namespace Go.Proofs.Ytchedkjlhjfadaa
open Go Go.RowKit Go.Lib
theorem under_ints : Try.prog.underlying 43 = some (.slice 3) := by kernel_rfl
theorem infoI1 : (Try.prog.info? 3).map (fun i => (i.size, i.bytes)) = some (1, 8) := by kernel_rfl
theorem infoI2 : ((Try.prog.info? 3).bind (·.zero)).map (fun z => z.cells.size) = some 1 := by kernel_rfl
theorem infoI3 : ((Try.prog.info? 3).bind (·.zero)).map (fun z => z.cells.toList.all Value.oneCell') = some true := by kernel_rfl
theorem info_int : ∃ i z, Try.prog.info? 3 = some i ∧ i.zero = some z ∧ i.size = 1 ∧ i.bytes = 8 ∧ z.cells.size = 1 ∧ z.cells.toList.all Value.oneCell' = true := by
  have h1 := infoI1
  have h2 := infoI2
  have h3 := infoI3
  generalize Try.prog.info? 3 = x at h1 h2 h3 ⊢
  cases x with
  | none => cases h1
  | some i =>
    cases hz : i.zero with
    | none => simp [hz] at h2
    | some z =>
      simp only [Option.map_some, Option.bind_some, hz, Option.some.injEq, Prod.mk.injEq] at h1 h2 h3
      exact ⟨i, z, rfl, hz, h1.1, h1.2, h2, h3⟩
/-- A block of n numbers, and spare cells. -/
structure Cloned (w : World) (news : List Value) (n gb cap : Nat) (cur : Array Value) (w' : World) : Prop where
  base : w.heap.size ≤ gb
  block : w'.heap[gb]? = some (.cells cur 3 (0, 0))
  fit : n ≤ cap
  size : cur.size = cap
  take : cur.toList.take n = news
  one : ∀ u, u ∈ cur.toList → u.oneCell' = true
  most : cap ≤ maxLen
  below : Below w.heap.size w w'
theorem append_made {W : World} {t ty : TypeId} (ht : Try.prog.underlying t = some (.slice 3)) (g : Nat) (hg : W.heap[g]? = some (.cells #[] 3 (0, 0))) (a : Addr) (n c : Nat) (news : List Value) (hl : news.length = n) (hn0 : 0 < n) (hn : n ≤ 1000000)
    (hnews : ∀ j u, news[j]? = some u → W.cell? (a.add j) = some u) (h1 : ∀ u ∈ news, u.oneCell' = true) :
    ∃ cap cur w', (Builtin.append_ #[t, t] ty #[.slice (some ⟨g, 0, none⟩) 0 0, .slice (some a) n c]).run Try.prog W = .ok (.slice (some ⟨W.heap.size, 0, none⟩) n cap) w' ∧ Cloned W news n W.heap.size cap cur w' := by
  obtain ⟨i, z, hi, hz, hs, hby, hzs, hz1⟩ := info_int
  have hr := run_append_grow (P := Try.prog) W t ty 3 i z ht hi hz ⟨g, 0, none⟩ 0 0 [] (by simp) (fun j u h => by simp at h) a n c news (by rw [hl, hs, Nat.mul_one]) hnews (by omega) (by omega) (by
    rw [hby]
    exact growslice_fits (by omega) (by omega))
  rw [Nat.zero_add] at hr
  refine ⟨grownCap W n 0 3, #[] ++ news.toArray ++ Builtin.zeroCells z.cells (grownCap W n 0 3 - n), _, hr, ?_⟩
  have hge := grownCap_ge W n 0 3
  have hmost := grownCap_le_maxLen W n 0 3 (by unfold maxLen; omega)
  generalize grownCap W n 0 3 = gc at hge hmost
  refine ⟨Nat.le_refl _, heap_alloc_new W.drew _, hge, ?_, ?_, ?_, hmost, ?_⟩
  · rw [Array.size_append, Array.size_append, size_zeroCells, hzs]
    simp [hl]
    omega
  · simp [← hl]
  · intro u hu
    simp only [Array.toList_append, List.append_assoc, List.mem_append] at hu
    rcases hu with h | h | h
    · simp at h
    · exact h1 u (by simpa using h)
    · have : u ∈ z.cells.toList := by
        unfold Builtin.zeroCells at h
        simp only [Array.toList_map, List.mem_map] at h
        obtain ⟨k, hk, rfl⟩ := h
        have hm : k % z.cells.size < z.cells.size := Nat.mod_lt _ (by omega)
        rw [getElem!_pos z.cells _ hm]
        simp
      exact List.all_eq_true.1 hz1 u this
  · exact ((Below.refl _ W).drew).alloc (Nat.le_refl _) _
theorem wpList_append_made {w : World} {ops : Array Oper} {rest : List Oper} {o : Oper} {a : Act} {Q : Exit → Act → World → Prop} (hgd : o.guard = none) (s x : Operand) (t : TypeId)
    (ho : o.op = .call { callee := .builtin .append, args := #[s, x], argTypes := #[t, t] }) (ht : Try.prog.underlying t = some (.slice 3))
    (g : Nat) (hs : a.eval s = .slice (some ⟨g, 0, none⟩) 0 0) (hg : w.heap[g]? = some (.cells #[] 3 (0, 0)))
    (ad : Addr) (n c : Nat) (news : List Value) (hx : a.eval x = .slice (some ad) n c) (hl : news.length = n) (hn0 : 0 < n) (hn : n ≤ 1000000) (hnews : ∀ j u, news[j]? = some u → w.cell? (ad.add j) = some u) (h1 : ∀ u ∈ news, u.oneCell' = true)
    (h : ∀ cap cur w', Cloned w news n w.heap.size cap cur w' → wpList Try.prog ops Q rest (a.put o.dst (.slice (some ⟨w.heap.size, 0, none⟩) n cap)) w') : wpList Try.prog ops Q (o :: rest) a w := by
  refine wpList_plain hgd fun _ hK => ?_
  obtain ⟨cap, cur, w', hr, hc⟩ := append_made (W := w) (ty := o.type) ht g hg ad n c news hl hn0 hn hnews h1
  have := hK _ _ (h cap cur w' hc)
  unfold Oper.wp execOp
  simp only [ho, resolve, invoke, builtin, Sem.run_bind, Sem.run_pure, Result.andThen_ok, List.map_toArray, List.map_cons, List.map_nil, hs, hx, hr]
  exact this
set_option maxHeartbeats 2000000 in
theorem cloneI_some (a : Addr) (n c : Nat) (news : List Value) (w : World) (hl : news.length = n) (hn0 : 0 < n) (hn : n ≤ 1000000) (hc : ∀ j u, news[j]? = some u → w.cell? (a.add j) = some u) (h1 : ∀ u ∈ news, u.oneCell' = true) :
    Calls Try.prog 102 #[.slice (some a) n c] w fun e w' => ∃ gb cap cur, e = .returned (.slice (some ⟨gb, 0, none⟩) n cap) ∧ Cloned w news n gb cap cur w' := by
  have q22 : ∀ (w : World) (a : Option Addr) (n c n' c' : Nat), (binOp .eql 43 (.slice a n c) (.slice none n' c')).run Try.prog w = .ok (.bool a.isNone) w := fun w a n c n' c' => Lib.run_eql_slice_nil w _ _ a n c n' c' under_ints
  have A : Aside (∀ j u, news[j]? = some u → w.cell? (a.add j) = some u) := hc
  clear hc
  go_enter Try.func102, Try.ntmps102
  go_wp2_with (at_builtin; refine wpList_append_made rfl _ _ 43 rfl under_ints w.heap.size rfl (heap_alloc_new w _) a n c news rfl hl hn0 hn (fun j u hj => Lib.cell?_alloc_some _ (A.out j u hj)) h1 ?_)
  intro cap cur w' hcl
  go_wp2
  go_ret
  have hb := (Below.refl w.heap.size w).alloc (Nat.le_refl _) (.cells #[] 3)
  exact ⟨_, cap, cur, rfl, Nat.le_trans hb.size hcl.base, hcl.block, hcl.fit, hcl.size, hcl.take, hcl.one, hcl.most, hb.trans (hcl.below.mono hb.size)⟩
set_option maxHeartbeats 1000000 in
theorem cloneI_nil (n c : Nat) (w : World) : Calls Try.prog 102 #[.slice none n c] w fun e w' => e = .returned (.slice none 0 0) ∧ w' = w := by
  have q22 : ∀ (w : World) (a : Option Addr) (n c n' c' : Nat), (binOp .eql 43 (.slice a n c) (.slice none n' c')).run Try.prog w = .ok (.bool a.isNone) w := fun w a n c n' c' => Lib.run_eql_slice_nil w _ _ a n c n' c' under_ints
  go_enter Try.func102, Try.ntmps102
  go_wp2
  go_ret
  exact ⟨rfl, rfl⟩
set_option maxHeartbeats 2000000 in
/-- Of none: none, in memory that may be new. -/
theorem cloneI_none (a : Addr) (c : Nat) (w : World) : Calls Try.prog 102 #[.slice (some a) 0 c] w fun e w' => ∃ b cap, e = .returned (.slice b 0 cap) ∧ Below w.heap.size w w' := by
  obtain ⟨i0, z, hi, hz0, hz1, hz2, hzs, _⟩ := info_int
  have q22 : ∀ (w : World) (a : Option Addr) (n c n' c' : Nat), (binOp .eql 43 (.slice a n c) (.slice none n' c')).run Try.prog w = .ok (.bool a.isNone) w := fun w a n c n' c' => Lib.run_eql_slice_nil w _ _ a n c n' c' under_ints
  go_enter Try.func102, Try.ntmps102
  go_wp2_with (at_builtin; refine wpList_append_own _ rfl _ _ 43 rfl w.heap.size 3 i0 z 1 8 under_ints hi hz0 hz1 hz2 hzs (by decide) _ _ _ rfl (World.ownsRow_made w #[] 0 (Nat.le_refl _) (Nat.zero_le _) (by simp)) a 0 c [] rfl (by simp) (fun j u h => by simp at h) (fun u h => by simp at h) (by simp [maxLen]) (by simp) (by simp) ?_)
  intro v' w1 hown hgrow hnil
  go_wp2
  go_ret
  have hb := ((Below.refl _ w).alloc (Nat.le_refl _) (.cells #[] 3)).grown hgrow (by simp) (by intro k hk; simp [Value.ownBlock] at hk; omega)
  rcases hown.2 with ⟨rfl, _⟩ | ⟨g, cap, cur, rfl, _⟩
  · exact ⟨none, 0, rfl, hb⟩
  · exact ⟨_, cap, rfl, hb⟩
set_option maxHeartbeats 2000000 in
theorem cloneI_own (a : Addr) (n c : Nat) (news : List Value) (w : World) (hl : news.length = n) (hn : n ≤ 1000000) (hc : ∀ j u, news[j]? = some u → w.cell? (a.add j) = some u) (h1 : ∀ u ∈ news, u.oneCell' = true) :
    Calls Try.prog 102 #[.slice (some a) n c] w fun e w' => ∃ v', e = .returned v' ∧ w'.ownsRow w.heap.size 3 1 v' n news ∧ Below w.heap.size w w' := by
  obtain ⟨i0, z, hi, hz0, hz1, hz2, hzs, _⟩ := info_int
  have q22 : ∀ (w : World) (a : Option Addr) (n c n' c' : Nat), (binOp .eql 43 (.slice a n c) (.slice none n' c')).run Try.prog w = .ok (.bool a.isNone) w := fun w a n c n' c' => Lib.run_eql_slice_nil w _ _ a n c n' c' under_ints
  have A : Aside (∀ j u, news[j]? = some u → w.cell? (a.add j) = some u) := hc
  clear hc
  go_enter Try.func102, Try.ntmps102
  go_wp2_with (at_builtin; refine wpList_append_own _ rfl _ _ 43 rfl w.heap.size 3 i0 z 1 8 under_ints hi hz0 hz1 hz2 hzs (by decide) _ _ _ rfl (World.ownsRow_made w #[] 0 (Nat.le_refl _) (Nat.zero_le _) (by simp)) a n c news rfl ?qc1 ?qc2 ?qc3 ?qc4 ?qc5 ?qc6 ?_)
  case qc1 => rw [hl, Nat.mul_one]
  case qc2 =>
    intro j u hj
    exact Lib.cell?_alloc_some _ (A.out j u hj)
  case qc3 => exact h1
  case qc4 => rw [Nat.zero_add]; simp only [maxLen]; omega
  case qc5 => rw [Nat.zero_add]; omega
  case qc6 => simp
  intro v' w1 hown hgrow hnil
  go_wp2
  go_ret
  refine ⟨v', rfl, by simpa using hown, ?_⟩
  exact ((Below.refl _ w).alloc (Nat.le_refl _) _).grown hgrow (by simp) (by intro k hk; simp [Value.ownBlock] at hk; omega)
end Go.Proofs.Ytchedkjlhjfadaa
