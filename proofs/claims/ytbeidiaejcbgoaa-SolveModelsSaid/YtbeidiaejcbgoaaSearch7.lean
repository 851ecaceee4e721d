/- solve: newSearch walked. Conditions: a formula of at most 100000 variables. -/
import Derived.Test.YtbeidiaejcbgoaaSearch6
import Derived.Laws.MakeOwn
namespace Go.Proofs.Ytbeidiaejcbgoaa
open Go.RowKit

theorem infoInt : (Try.prog.info? 3).map (fun i => (i.zero, i.size, i.bytes)) = some (some (.int .i64 0), 1, 8) := by kernel_rfl

set_option maxHeartbeats 1000000 in
theorem newSearch_any (n : Nat) (Lv : Value) (w : World) (hn : n ≤ 100000) (hone : ∃ a len cap, Lv = .slice a len cap) :
    Calls Try.prog 35 #[.agg #[.int .i64 n, Lv]] w fun e w' => e = .returned (.pointer (some ⟨w.heap.size + 2, 0, none⟩)) ∧ Srch w' (w.heap.size + 3) (w.heap.size + 2) (w.heap.size + 1) (.slice none 0 0) n Lv (valR []) [] 0 ∧ Chg (fun _ => False) w w' := by
  obtain ⟨i0, hinf, hz0, hz1, hz2⟩ := info_parts infoInt
  obtain ⟨a, len, cap, rfl⟩ := hone
  have hmk : ∀ w, (Instr.makeSlice 41 (.int .i64 ((n : Int) + 1)) (.int .i64 ((n : Int) + 1))).run Try.prog w = .ok (.slice (some ⟨w.heap.size, 0, none⟩) (n + 1) (n + 1)) (w.alloc (.cells (madeCells #[.int .i64 0] (n + 1)) 3)) := by
    intro w
    have := run_make (P := Try.prog) w 41 3 i0 (.int .i64 0) Try.underlying41 hinf hz0 .i64 .i64 ((n : Int) + 1) ((n : Int) + 1) (by omega) (by omega) (by rw [hz2]; omega) (by omega)
    rw [this, hz1, show ((n : Int) + 1).toNat = n + 1 by omega]
    simp [Value.cells]
  have hmc : ∀ i, i ≤ n → (madeCells #[.int .i64 0] (n + 1))[i]? = some (.int .i64 0) := by
    intro i hi
    simp [madeCells, show i < n + 1 by omega, Nat.mod_one]
  generalize madeCells #[.int .i64 0] (n + 1) = mc at hmk hmc
  have HMC := Lib.hid hmc
  clear hmc
  clear hinf hz0 hz1 hz2
  go_enter Try.func35, Try.ntmps35
  go_wp2
  go_region
  go_wp2
  go_ret
  have hsz : ∀ (W : World) (o : Obj), (W.alloc o).heap.size = W.heap.size + 1 := fun W o => by simp
  refine ⟨rfl, Srch.drew ?_, ((((Chg.refl _ _).alloc _).alloc _).alloc _).drew⟩
  refine ⟨by omega, by omega, by omega, by simp, ?_, ⟨mc, ?_, HMC.out⟩, World.ownsRow_nil _ _ _ _, hn, lits3_valR []⟩
  · have := World.alloc_heap_new ((w.alloc (.cells #[.int .i64 n, .slice a len cap] 30)).alloc (.cells mc 3)) (.cells #[.int .i64 n, .slice a len cap, .slice (some ⟨w.heap.size + 1, 0, none⟩) (n + 1) (n + 1), .slice none 0 0, .int .i64 0] 66)
    simpa using this
  · have := World.alloc_heap_new (w.alloc (.cells #[.int .i64 n, .slice a len cap] 30)) (.cells mc 3)
    rw [hsz] at this
    rw [← this]
    exact Below.heap_alloc _ _ _ (by simp)
end Go.Proofs.Ytbeidiaejcbgoaa
