/- The tables that are read: blocks, offsets, what lies there. Conditions: none. -/
import Derived.WalkKit
namespace Go.Ab
open Go
def tabV : Nat → Nat → Option Value → Prop := fun _ _ _ => False
def keepNil : Bool := false
def hasReg : Bool := false
def rgF : Nat → Bool
  | _ => false
end Go.Ab
