/- The tables that are read: blocks, offsets, what lies there. Conditions: none. -/
import Derived.WalkKit
namespace Go.Ab
open Go
def tabV : Nat → Nat → Option Value → Prop := fun _ _ _ => False
def keepNil : Bool := false
def stkT : Nat → Bool
  | 89 => true
  | _ => false
def hasReg : Bool := true
def rgF : Nat → Bool
  | 4 => true
  | 14 => true
  | 15 => true
  | 16 => true
  | 18 => true
  | 20 => true
  | 21 => true
  | 26 => true
  | 28 => true
  | 29 => true
  | 30 => true
  | 31 => true
  | 36 => true
  | 51 => true
  | 53 => true
  | 54 => true
  | 55 => true
  | 66 => true
  | 67 => true
  | 68 => true
  | 69 => true
  | _ => false
end Go.Ab
