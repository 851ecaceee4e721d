/- usufructlaw04.word, by its walk. Conditions: none. -/
import Derived.Test.YthfollapianblaaProg
import Derived.WalkKit
import Derived.ProofKit
import Derived.Lib.SlBytesRow
namespace Go.Proofs.Ythfollapianblaa
open Go
def wrdP (s : List UInt8) (n : Nat) : List UInt8 := s ++ [UInt8.ofNat (97 + n / 26), UInt8.ofNat (97 + n % 26)]
theorem word_conv (w : World) (a b : UInt8) : (convert 85 9 (Value.slice (some { block := w.heap.size, off := 0 }) 2 2)).run Try.prog (w.alloc (Obj.cells #[Value.int .u8 (a.toNat : Int), Value.int .u8 (b.toNat : Int)] 5)) = .ok (.string ⟨⟨[a, b]⟩⟩) (w.alloc (Obj.cells #[Value.int .u8 (a.toNat : Int), Value.int .u8 (b.toNat : Int)] 5)) := by
  refine Lib.run_convert_whole _ 85 5 9 Try.underlying85 Try.underlying5 Try.underlying9 _ _ ⟨⟨[a, b]⟩⟩ ?_ 2
  intro i hi
  have hi2 : i = 0 ∨ i = 1 := by
    have : i < 2 := hi
    omega
  rcases hi2 with rfl | rfl
  · exact World.cell?_alloc_mark w _ _ (0, 0) 0
  · exact World.cell?_alloc_mark w _ _ (0, 0) 1
set_option maxRecDepth 20000 in
set_option maxHeartbeats 4000000 in
theorem word_any (s : List UInt8) (n : Nat) (hs : s.length ≤ 100) (hn : n ≤ 100) (w : World) : Calls Try.prog 21 #[.string ⟨⟨s⟩⟩, .int .i64 n] w fun e w' => e = .returned (.string ⟨⟨wrdP s n⟩⟩) ∧ RowKit.Below w.heap.size w w' := by
  have h1 : ((UInt8.ofNat (97 + n / 26)).toNat : Int) = 97 + (n : Int) / 26 := by
    rw [UInt8.toNat_ofNat']; omega
  have h2 : ((UInt8.ofNat (97 + n % 26)).toNat : Int) = 97 + (n : Int) % 26 := by
    rw [UInt8.toNat_ofNat']; omega
  have hc := word_conv w (UInt8.ofNat (97 + n / 26)) (UInt8.ofNat (97 + n % 26))
  rw [h1, h2] at hc
  go_enter Try.func21, Try.ntmps21
  go_wp2
  go_ret
  refine ⟨?_, (RowKit.Below.refl _ _).alloc (Nat.le_refl _) _⟩
  unfold wrdP
  have h3 : UInt8.ofNat (97 + n / 26) = 97 + UInt8.ofNat (n / 26) := by simp
  have h4 : UInt8.ofNat (97 + n % 26) = 97 + UInt8.ofNat (n % 26) := by simp
  rw [h3, h4]
  show Ending.returned (.string ((⟨⟨s⟩⟩ : ByteArray) ++ ⟨⟨_⟩⟩)) = _
  congr 2
end Go.Proofs.Ythfollapianblaa
