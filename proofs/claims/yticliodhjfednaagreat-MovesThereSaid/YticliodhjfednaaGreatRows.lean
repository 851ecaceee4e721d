/-
  No cell of these rows narrows 'for every input' (looked for: loops, veiled, ifaces, maps, wideKeys, modest, calm, conditions, laid).
  DERIVED. THE GIVEN ROWS OF THIS SEAT. 4 by the template 'for every input the law returns true; each argument reads behind the call as it read before'; 0 by the template 'total and deterministic' (their statements: YticliodhjfednaaGreatTotals.lean).
  GIVEN WITH THE SEED: the statements are not yours to turn. If you find one false, say at which input.
  Laid BY PROGRAM, IN A SANDBOX (cutbox-rows.mjs): the forced cells as the released guide's own fill.sh prints them over the translation f5d5a3caf005822f… (all of the seat's roots in one cut). By AI agents, Wed Nov 11 2026. No macro, syntax, notation, axiom, sorry.
-/
import Derived.Test.YticliodhjfednaaGreatChecked
import GoSem.Claim
import GoSem.ClaimJoined
import GoSem.ClaimMapViews
import Derived.JoinedTies
import Derived.KernelRfl
namespace Go.Proofs.YticliodhjfednaaGreat
/- THE CELL 'sum', in the pinned program and in every row, IS THE sha256 OF THE DUMP (.gsa) THAT YticliodhjfednaaGreatProg.lean LOADS. Nothing in Lean hashes anything: it is a label: what it is worth is what the hold of that sum in a sandbox is worth. -/
noncomputable def Tryz.pinned : Pinned := { name := "yticliodhjfednaagreat", sum := "f5d5a3caf005822f93be7dc20cf180198b8c6c92da0f3009ac22101fcb21c13d", checked := Tryz.checked }
namespace Rows
def none {H : Type} : Left H := { results := [], args := [] }

/-- 'usufructlaw23.MovesTables': WHATEVER THE INPUT: true; the input reads as it did. -/
def movesTablesSpec : ChangeSpec := { name := "movesTables", fn := fun _ => fun
  | [d1, d2] => { results := [.lit (.bool true)], args := [d1, d2] }
  | _ => none }
def movesTablesRow : OpenClaim := { program := "yticliodhjfednaagreat", sum := "f5d5a3caf005822f93be7dc20cf180198b8c6c92da0f3009ac22101fcb21c13d", func := "usufruct/usufructlaw23.MovesTables", spec := "movesTables", unfollowed := true, recurses := true, apart := false }
def MovesTablesSaid : Prop := movesTablesRow.holds Tryz.pinned (OpenSpec.ofChange movesTablesSpec)

/-- ITS FALSE NEIGHBOUR: 'it returns false'. Refute it at one input. -/
def movesTablesWrong : ChangeSpec := { name := "movesTables", fn := fun _ => fun
  | [d1, d2] => { results := [.lit (.bool false)], args := [d1, d2] }
  | _ => none }
def MovesTablesWrongFalsely : Prop := movesTablesRow.holds Tryz.pinned (OpenSpec.ofChange movesTablesWrong)

/-- 'usufructlaw23.MovesChecks': WHATEVER THE INPUT: true; the input reads as it did. -/
def movesChecksSpec : ChangeSpec := { name := "movesChecks", fn := fun _ => fun
  | [d] => { results := [.lit (.bool true)], args := [d] }
  | _ => none }
def movesChecksRow : OpenClaim := { program := "yticliodhjfednaagreat", sum := "f5d5a3caf005822f93be7dc20cf180198b8c6c92da0f3009ac22101fcb21c13d", func := "usufruct/usufructlaw23.MovesChecks", spec := "movesChecks", unfollowed := true, recurses := true, apart := false }
def MovesChecksSaid : Prop := movesChecksRow.holds Tryz.pinned (OpenSpec.ofChange movesChecksSpec)

/-- ITS FALSE NEIGHBOUR: 'it returns false'. Refute it at one input. -/
def movesChecksWrong : ChangeSpec := { name := "movesChecks", fn := fun _ => fun
  | [d] => { results := [.lit (.bool false)], args := [d] }
  | _ => none }
def MovesChecksWrongFalsely : Prop := movesChecksRow.holds Tryz.pinned (OpenSpec.ofChange movesChecksWrong)

/-- 'usufructlaw23.MovesWays': WHATEVER THE INPUT: true; the input reads as it did. -/
def movesWaysSpec : ChangeSpec := { name := "movesWays", fn := fun _ => fun
  | [d1, d2, d3] => { results := [.lit (.bool true)], args := [d1, d2, d3] }
  | _ => none }
def movesWaysRow : OpenClaim := { program := "yticliodhjfednaagreat", sum := "f5d5a3caf005822f93be7dc20cf180198b8c6c92da0f3009ac22101fcb21c13d", func := "usufruct/usufructlaw23.MovesWays", spec := "movesWays", unfollowed := true, recurses := true, apart := false }
def MovesWaysSaid : Prop := movesWaysRow.holds Tryz.pinned (OpenSpec.ofChange movesWaysSpec)

/-- ITS FALSE NEIGHBOUR: 'it returns false'. Refute it at one input. -/
def movesWaysWrong : ChangeSpec := { name := "movesWays", fn := fun _ => fun
  | [d1, d2, d3] => { results := [.lit (.bool false)], args := [d1, d2, d3] }
  | _ => none }
def MovesWaysWrongFalsely : Prop := movesWaysRow.holds Tryz.pinned (OpenSpec.ofChange movesWaysWrong)

/-- 'usufructlaw23.MovesThere': WHATEVER THE INPUT: true; the input reads as it did. -/
def movesThereSpec : ChangeSpec := { name := "movesThere", fn := fun _ => fun
  | [d1, d2] => { results := [.lit (.bool true)], args := [d1, d2] }
  | _ => none }
def movesThereRow : OpenClaim := { program := "yticliodhjfednaagreat", sum := "f5d5a3caf005822f93be7dc20cf180198b8c6c92da0f3009ac22101fcb21c13d", func := "usufruct/usufructlaw23.MovesThere", spec := "movesThere", unfollowed := true, recurses := true, apart := false }
def MovesThereSaid : Prop := movesThereRow.holds Tryz.pinned (OpenSpec.ofChange movesThereSpec)

/-- ITS FALSE NEIGHBOUR: 'it returns false'. Refute it at one input. -/
def movesThereWrong : ChangeSpec := { name := "movesThere", fn := fun _ => fun
  | [d1, d2] => { results := [.lit (.bool false)], args := [d1, d2] }
  | _ => none }
def MovesThereWrongFalsely : Prop := movesThereRow.holds Tryz.pinned (OpenSpec.ofChange movesThereWrong)

/- THE SECOND FORM. 'bulk': how many values and letters a reading holds, each counted each time it is reached (what is shared counts as often as it is met; a slice's spare places count too). A statement '..UptoSaid' is the law's where the arguments, and the package variables that the reading takes, are together of bulk at most 1048576: NARROWER than '..Said'. Prove '..Said' where nothing that the law and all that it calls make is longer than what came in: it says more and counts as full. Else prove '..UptoSaid'. A law counts once. -/
mutual
def uptoBulk {H : Type} : DataW H → Nat
  | .lit (.string bytes) => bytes.length + 1
  | .lit _ => 1
  | .nil => 1
  | .ptr d => uptoBulk d + 1
  | .slice elems spare => uptoBulkAll elems + uptoBulkAll spare + 1
  | .agg parts => uptoBulkAll parts + 1
  | .iface _ d => uptoBulk d + 1
  | .map entries => uptoBulkEntries entries + 1
  | .held _ => 1
def uptoBulkAll {H : Type} : List (DataW H) → Nat
  | [] => 0
  | d :: r => uptoBulk d + uptoBulkAll r
def uptoBulkEntries {H : Type} : List (Lit × DataW H) → Nat
  | [] => 0
  | x :: r => uptoBulkEntry x + uptoBulkEntries r
def uptoBulkEntry {H : Type} : Lit × DataW H → Nat
  | (.string bytes, d) => bytes.length + uptoBulk d + 1
  | (_, d) => uptoBulk d + 1
 end
def uptoSmall : (H : Type) → List (DataW H) → Bool := fun _ ds => decide (uptoBulkAll ds ≤ 1048576)
def OpenSpec.upto (s : _root_.Go.ChangeSpec) : _root_.Go.OpenSpec := { _root_.Go.OpenSpec.ofChange s with cond := some uptoSmall }

/-- 'usufructlaw23.MovesTables', WHERE WHAT IT READS IS OF BULK AT MOST 1048576: true; the input reads as it did. -/
def movesTablesUptoRow : OpenClaim := { program := "yticliodhjfednaagreat", sum := "f5d5a3caf005822f93be7dc20cf180198b8c6c92da0f3009ac22101fcb21c13d", func := "usufruct/usufructlaw23.MovesTables", spec := "movesTables", unfollowed := true, recurses := true, apart := false, narrowed := true }
def MovesTablesUptoSaid : Prop := movesTablesUptoRow.holds Tryz.pinned (OpenSpec.upto movesTablesSpec)

/-- 'usufructlaw23.MovesChecks', WHERE WHAT IT READS IS OF BULK AT MOST 1048576: true; the input reads as it did. -/
def movesChecksUptoRow : OpenClaim := { program := "yticliodhjfednaagreat", sum := "f5d5a3caf005822f93be7dc20cf180198b8c6c92da0f3009ac22101fcb21c13d", func := "usufruct/usufructlaw23.MovesChecks", spec := "movesChecks", unfollowed := true, recurses := true, apart := false, narrowed := true }
def MovesChecksUptoSaid : Prop := movesChecksUptoRow.holds Tryz.pinned (OpenSpec.upto movesChecksSpec)

/-- 'usufructlaw23.MovesWays', WHERE WHAT IT READS IS OF BULK AT MOST 1048576: true; the input reads as it did. -/
def movesWaysUptoRow : OpenClaim := { program := "yticliodhjfednaagreat", sum := "f5d5a3caf005822f93be7dc20cf180198b8c6c92da0f3009ac22101fcb21c13d", func := "usufruct/usufructlaw23.MovesWays", spec := "movesWays", unfollowed := true, recurses := true, apart := false, narrowed := true }
def MovesWaysUptoSaid : Prop := movesWaysUptoRow.holds Tryz.pinned (OpenSpec.upto movesWaysSpec)

/-- 'usufructlaw23.MovesThere', WHERE WHAT IT READS IS OF BULK AT MOST 1048576: true; the input reads as it did. -/
def movesThereUptoRow : OpenClaim := { program := "yticliodhjfednaagreat", sum := "f5d5a3caf005822f93be7dc20cf180198b8c6c92da0f3009ac22101fcb21c13d", func := "usufruct/usufructlaw23.MovesThere", spec := "movesThere", unfollowed := true, recurses := true, apart := false, narrowed := true }
def MovesThereUptoSaid : Prop := movesThereUptoRow.holds Tryz.pinned (OpenSpec.upto movesThereSpec)

end Rows
end Go.Proofs.YticliodhjfednaaGreat
