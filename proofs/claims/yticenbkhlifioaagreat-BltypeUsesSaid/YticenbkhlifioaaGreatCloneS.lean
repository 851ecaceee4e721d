/- slices.Clone of variables, by its walk. Conditions: none. -/
import Derived.Test.YticenbkhlifioaaGreatUtil
import Derived.Test.YticenbkhlifioaaGreatM3
import Derived.Shelf.SlicesE.Clone
namespace Go.Proofs.YticenbkhlifioaaGreat
open Go Go.RowKit Go.Lib
theorem under_vars : Tryz.prog.underlying 36 = some (.slice 40) := by kernel_rfl
theorem info_var1 : (Tryz.prog.info? 40).map (fun i => (i.size, i.bytes)) = some (3, 32) := by kernel_rfl
theorem info_var2 : ((Tryz.prog.info? 40).bind (·.zero)).map (fun z => z.cells.size) = some 3 := by kernel_rfl
theorem info_var : ∃ i z, Tryz.prog.info? 40 = some i ∧ i.zero = some z ∧ i.size = 3 ∧ i.bytes = 32 ∧ z.cells.size = 3 := by
  have h1 := info_var1
  have h2 := info_var2
  generalize Tryz.prog.info? 40 = x at h1 h2 ⊢
  cases x with
  | none => cases h1
  | some i =>
    cases hz : i.zero with
    | none => simp [hz] at h2
    | some z =>
      simp [hz] at h1 h2
      exact ⟨i, z, rfl, hz, h1.1, h1.2, h2⟩
set_option maxHeartbeats 2000000 in
theorem clone_some (a : Addr) (n c : Nat) (news : List Value) (w : World) (hl : news.length = n * 3) (hn : n ≤ 1000) (hc : ∀ j u, news[j]? = some u → w.cell? (a.add j) = some u) (h1 : ∀ u ∈ news, u.oneCell' = true) :
    Calls Tryz.prog 47 #[.slice (some a) n c] w fun e w' => ∃ v', e = .returned v' ∧ w'.ownsRow w.heap.size 40 3 v' n news ∧ Below w.heap.size w w' := by
  obtain ⟨i0, z, hi, hz0, hz1, hz2, hzs⟩ := info_var
  have q22 : ∀ (w : World) (a : Option Addr) (n c n' c' : Nat), (binOp .eql 36 (.slice a n c) (.slice none n' c')).run Tryz.prog w = .ok (.bool a.isNone) w := fun w a n c n' c' => Lib.run_eql_slice_nil w _ _ a n c n' c' under_vars
  have A : Aside (∀ j u, news[j]? = some u → w.cell? (a.add j) = some u) := hc
  clear hc
  go_enter Tryz.func47, Tryz.ntmps47
  go_wp2_with (at_builtin; refine wpList_append_own _ rfl _ _ 36 rfl w.heap.size 40 i0 z 3 32 under_vars hi hz0 hz1 hz2 hzs (by decide) _ _ _ rfl (World.ownsRow_made w #[] 0 (Nat.le_refl _) (Nat.zero_le _) (by simp)) a n c news rfl ?qc1 ?qc2 ?qc3 ?qc4 ?qc5 ?qc6 ?_)
  case qc1 => exact hl
  case qc2 =>
    intro j u hj
    exact Lib.cell?_alloc_some _ (A.out j u hj)
  case qc3 => exact h1
  case qc4 => rw [Nat.zero_add]; simp only [maxLen]; omega
  case qc5 => rw [Nat.zero_add]; omega
  case qc6 => simp
  intro v' w1 hown hgrow hnil
  go_wp2
  go_ret
  refine ⟨v', rfl, by simpa using hown, ?_⟩
  exact ((Below.refl _ w).alloc (Nat.le_refl _) _).grown hgrow (by simp) (by intro k hk; simp [Value.ownBlock] at hk; omega)
set_option maxHeartbeats 1000000 in
theorem clone_nil (n c : Nat) (w : World) : Calls Tryz.prog 47 #[.slice none n c] w fun e w' => e = .returned (.slice none 0 0) ∧ w' = w := by
  have q22 : ∀ (w : World) (a : Option Addr) (n c n' c' : Nat), (binOp .eql 36 (.slice a n c) (.slice none n' c')).run Tryz.prog w = .ok (.bool a.isNone) w := fun w a n c n' c' => Lib.run_eql_slice_nil w _ _ a n c n' c' under_vars
  go_enter Tryz.func47, Tryz.ntmps47
  go_wp2
  go_ret
  exact ⟨rfl, rfl⟩
end Go.Proofs.YticenbkhlifioaaGreat
