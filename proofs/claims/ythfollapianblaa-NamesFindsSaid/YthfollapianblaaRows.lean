/-
  No cell of these rows narrows 'for every input' (looked for: loops, veiled, ifaces, maps, wideKeys, modest, calm, conditions, laid).
  DERIVED. THE GIVEN ROWS OF THIS SEAT. 4 by the template 'for every input the law returns true; each argument reads behind the call as it read before'; 0 by the template 'total and deterministic' (their statements: YthfollapianblaaTotals.lean).
  GIVEN WITH THE SEED: the statements are not yours to turn. If you find one false, say at which input.
  Laid BY PROGRAM, IN A SANDBOX (cutbox-rows.mjs): the forced cells as the released guide's own fill.sh prints them over the translation d3a732438de002c4… (all of the seat's roots in one cut). By AI agents, Wed Nov 11 2026. No macro, syntax, notation, axiom, sorry.
-/
import Derived.Test.YthfollapianblaaChecked
import GoSem.Claim
import GoSem.ClaimJoined
import GoSem.ClaimMapViews
import Derived.JoinedTies
import Derived.KernelRfl
namespace Go.Proofs.Ythfollapianblaa
/- THE CELL 'sum', in the pinned program and in every row, IS THE sha256 OF THE DUMP (.gsa) THAT YthfollapianblaaProg.lean LOADS. Nothing in Lean hashes anything: it is a label: what it is worth is what the hold of that sum in a sandbox is worth. -/
noncomputable def Try.pinned : Pinned := { name := "ythfollapianblaa", sum := "d3a732438de002c411fd5ca777de98c623badbc37beeb27d12d36285b741ef98", checked := Try.checked }
namespace Rows
def none {H : Type} : Left H := { results := [], args := [] }

/-- 'usufructlaw04.NamesChecks': WHATEVER THE INPUT: true; the input reads as it did. -/
def namesChecksSpec : ChangeSpec := { name := "namesChecks", fn := fun _ => fun
  | [d] => { results := [.lit (.bool true)], args := [d] }
  | _ => none }
def namesChecksRow : OpenClaim := { program := "ythfollapianblaa", sum := "d3a732438de002c411fd5ca777de98c623badbc37beeb27d12d36285b741ef98", func := "usufruct/usufructlaw04.NamesChecks", spec := "namesChecks", unfollowed := true, recurses := true, apart := false }
def NamesChecksSaid : Prop := namesChecksRow.holds Try.pinned (OpenSpec.ofChange namesChecksSpec)

/-- ITS FALSE NEIGHBOUR: 'it returns false'. Refute it at one input. -/
def namesChecksWrong : ChangeSpec := { name := "namesChecks", fn := fun _ => fun
  | [d] => { results := [.lit (.bool false)], args := [d] }
  | _ => none }
def NamesChecksWrongFalsely : Prop := namesChecksRow.holds Try.pinned (OpenSpec.ofChange namesChecksWrong)

/-- 'usufructlaw04.NamesFinds': WHATEVER THE INPUT: true; the input reads as it did. -/
def namesFindsSpec : ChangeSpec := { name := "namesFinds", fn := fun _ => fun
  | [d1, d2, d3, d4, d5] => { results := [.lit (.bool true)], args := [d1, d2, d3, d4, d5] }
  | _ => none }
def namesFindsRow : OpenClaim := { program := "ythfollapianblaa", sum := "d3a732438de002c411fd5ca777de98c623badbc37beeb27d12d36285b741ef98", func := "usufruct/usufructlaw04.NamesFinds", spec := "namesFinds", unfollowed := true, recurses := true, apart := false }
def NamesFindsSaid : Prop := namesFindsRow.holds Try.pinned (OpenSpec.ofChange namesFindsSpec)

/-- ITS FALSE NEIGHBOUR: 'it returns false'. Refute it at one input. -/
def namesFindsWrong : ChangeSpec := { name := "namesFinds", fn := fun _ => fun
  | [d1, d2, d3, d4, d5] => { results := [.lit (.bool false)], args := [d1, d2, d3, d4, d5] }
  | _ => none }
def NamesFindsWrongFalsely : Prop := namesFindsRow.holds Try.pinned (OpenSpec.ofChange namesFindsWrong)

/-- 'usufructlaw04.NamesLimits': WHATEVER THE INPUT: true; the input reads as it did. -/
def namesLimitsSpec : ChangeSpec := { name := "namesLimits", fn := fun _ => fun
  | [d1, d2] => { results := [.lit (.bool true)], args := [d1, d2] }
  | _ => none }
def namesLimitsRow : OpenClaim := { program := "ythfollapianblaa", sum := "d3a732438de002c411fd5ca777de98c623badbc37beeb27d12d36285b741ef98", func := "usufruct/usufructlaw04.NamesLimits", spec := "namesLimits", unfollowed := true, recurses := true, apart := false }
def NamesLimitsSaid : Prop := namesLimitsRow.holds Try.pinned (OpenSpec.ofChange namesLimitsSpec)

/-- ITS FALSE NEIGHBOUR: 'it returns false'. Refute it at one input. -/
def namesLimitsWrong : ChangeSpec := { name := "namesLimits", fn := fun _ => fun
  | [d1, d2] => { results := [.lit (.bool false)], args := [d1, d2] }
  | _ => none }
def NamesLimitsWrongFalsely : Prop := namesLimitsRow.holds Try.pinned (OpenSpec.ofChange namesLimitsWrong)

/-- 'usufructlaw04.NamesMore': WHATEVER THE INPUT: true; the input reads as it did. -/
def namesMoreSpec : ChangeSpec := { name := "namesMore", fn := fun _ => fun
  | [d] => { results := [.lit (.bool true)], args := [d] }
  | _ => none }
def namesMoreRow : OpenClaim := { program := "ythfollapianblaa", sum := "d3a732438de002c411fd5ca777de98c623badbc37beeb27d12d36285b741ef98", func := "usufruct/usufructlaw04.NamesMore", spec := "namesMore", unfollowed := true, recurses := true, apart := false }
def NamesMoreSaid : Prop := namesMoreRow.holds Try.pinned (OpenSpec.ofChange namesMoreSpec)

/-- ITS FALSE NEIGHBOUR: 'it returns false'. Refute it at one input. -/
def namesMoreWrong : ChangeSpec := { name := "namesMore", fn := fun _ => fun
  | [d] => { results := [.lit (.bool false)], args := [d] }
  | _ => none }
def NamesMoreWrongFalsely : Prop := namesMoreRow.holds Try.pinned (OpenSpec.ofChange namesMoreWrong)

/- THE SECOND FORM. 'bulk': how many values and letters a reading holds, each counted each time it is reached (what is shared counts as often as it is met; a slice's spare places count too). A statement '..UptoSaid' is the law's where the arguments, and the package variables that the reading takes, are together of bulk at most 1048576: NARROWER than '..Said'. Prove '..Said' where nothing that the law and all that it calls make is longer than what came in: it says more and counts as full. Else prove '..UptoSaid'. A law counts once. -/
mutual
def uptoBulk {H : Type} : DataW H → Nat
  | .lit (.string bytes) => bytes.length + 1
  | .lit _ => 1
  | .nil => 1
  | .ptr d => uptoBulk d + 1
  | .slice elems spare => uptoBulkAll elems + uptoBulkAll spare + 1
  | .agg parts => uptoBulkAll parts + 1
  | .iface _ d => uptoBulk d + 1
  | .map entries => uptoBulkEntries entries + 1
  | .held _ => 1
def uptoBulkAll {H : Type} : List (DataW H) → Nat
  | [] => 0
  | d :: r => uptoBulk d + uptoBulkAll r
def uptoBulkEntries {H : Type} : List (Lit × DataW H) → Nat
  | [] => 0
  | x :: r => uptoBulkEntry x + uptoBulkEntries r
def uptoBulkEntry {H : Type} : Lit × DataW H → Nat
  | (.string bytes, d) => bytes.length + uptoBulk d + 1
  | (_, d) => uptoBulk d + 1
 end
def uptoSmall : (H : Type) → List (DataW H) → Bool := fun _ ds => decide (uptoBulkAll ds ≤ 1048576)
def OpenSpec.upto (s : _root_.Go.ChangeSpec) : _root_.Go.OpenSpec := { _root_.Go.OpenSpec.ofChange s with cond := some uptoSmall }

/-- 'usufructlaw04.NamesChecks', WHERE WHAT IT READS IS OF BULK AT MOST 1048576: true; the input reads as it did. -/
def namesChecksUptoRow : OpenClaim := { program := "ythfollapianblaa", sum := "d3a732438de002c411fd5ca777de98c623badbc37beeb27d12d36285b741ef98", func := "usufruct/usufructlaw04.NamesChecks", spec := "namesChecks", unfollowed := true, recurses := true, apart := false, narrowed := true }
def NamesChecksUptoSaid : Prop := namesChecksUptoRow.holds Try.pinned (OpenSpec.upto namesChecksSpec)

/-- 'usufructlaw04.NamesFinds', WHERE WHAT IT READS IS OF BULK AT MOST 1048576: true; the input reads as it did. -/
def namesFindsUptoRow : OpenClaim := { program := "ythfollapianblaa", sum := "d3a732438de002c411fd5ca777de98c623badbc37beeb27d12d36285b741ef98", func := "usufruct/usufructlaw04.NamesFinds", spec := "namesFinds", unfollowed := true, recurses := true, apart := false, narrowed := true }
def NamesFindsUptoSaid : Prop := namesFindsUptoRow.holds Try.pinned (OpenSpec.upto namesFindsSpec)

/-- 'usufructlaw04.NamesLimits', WHERE WHAT IT READS IS OF BULK AT MOST 1048576: true; the input reads as it did. -/
def namesLimitsUptoRow : OpenClaim := { program := "ythfollapianblaa", sum := "d3a732438de002c411fd5ca777de98c623badbc37beeb27d12d36285b741ef98", func := "usufruct/usufructlaw04.NamesLimits", spec := "namesLimits", unfollowed := true, recurses := true, apart := false, narrowed := true }
def NamesLimitsUptoSaid : Prop := namesLimitsUptoRow.holds Try.pinned (OpenSpec.upto namesLimitsSpec)

/-- 'usufructlaw04.NamesMore', WHERE WHAT IT READS IS OF BULK AT MOST 1048576: true; the input reads as it did. -/
def namesMoreUptoRow : OpenClaim := { program := "ythfollapianblaa", sum := "d3a732438de002c411fd5ca777de98c623badbc37beeb27d12d36285b741ef98", func := "usufruct/usufructlaw04.NamesMore", spec := "namesMore", unfollowed := true, recurses := true, apart := false, narrowed := true }
def NamesMoreUptoSaid : Prop := namesMoreUptoRow.holds Try.pinned (OpenSpec.upto namesMoreSpec)

end Rows
end Go.Proofs.Ythfollapianblaa
