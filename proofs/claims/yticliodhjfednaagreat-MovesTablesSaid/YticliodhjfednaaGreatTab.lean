/- The tables that are read: blocks, offsets, what lies there. Conditions: none. -/
import Derived.WalkKit
namespace Go.Ab
open Go
def tabV : Nat → Nat → Option Value → Prop := fun _ _ _ => False
def keepNil : Bool := false
def stkT : Nat → Bool
  | 139 => true
  | _ => false
def hasReg : Bool := true
def rgF : Nat → Bool
  | 3 => true
  | 6 => true
  | 9 => true
  | 11 => true
  | 12 => true
  | 13 => true
  | 26 => true
  | 28 => true
  | 29 => true
  | 32 => true
  | 42 => true
  | 43 => true
  | 44 => true
  | 46 => true
  | 47 => true
  | 57 => true
  | 60 => true
  | 61 => true
  | 101 => true
  | _ => false
def rgT : Nat → Bool
  | 68 => true
  | _ => false
end Go.Ab
