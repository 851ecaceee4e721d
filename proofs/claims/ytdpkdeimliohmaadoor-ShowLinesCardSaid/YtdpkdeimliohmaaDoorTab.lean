/- The tables that are read: blocks, offsets, what lies there. Conditions: none. -/
import Derived.WalkKit
import Derived.Lib.ItoaNum
namespace Go.Ab
open Go
def tabV : Nat → Nat → Option Value → Prop := fun b o v => b = 0 ∧ o ≤ 20 ∧ v = (Lib.pow10Tab[o]?).map (Value.int .u64)
end Go.Ab
