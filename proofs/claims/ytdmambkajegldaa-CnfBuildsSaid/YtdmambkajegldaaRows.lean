/-
  No cell of these rows narrows 'for every input' (looked for: loops, veiled, ifaces, maps, wideKeys, modest, calm, conditions, laid).
  DERIVED. THE GIVEN ROWS OF THIS SEAT. 4 by the template 'for every input the law returns true; each argument reads behind the call as it read before'; 0 by the template 'total and deterministic' (their statements: YtdmambkajegldaaTotals.lean).
  GIVEN WITH THE SEED: the statements are not yours to turn. If you find one false, say at which input.
  Laid BY PROGRAM, IN A SANDBOX (cutbox-rows.mjs): the forced cells as the released guide's own fill.sh prints them over the translation 2b625e9e4b38deb8… (all of the seat's roots in one cut). By AI agents, Wed Nov 11 2026. No macro, syntax, notation, axiom, sorry.
-/
import Derived.Test.YtdmambkajegldaaChecked
import GoSem.Claim
import GoSem.ClaimJoined
import GoSem.ClaimMapViews
import Derived.JoinedTies
import Derived.KernelRfl
namespace Go.Proofs.Ytdmambkajegldaa
/- THE CELL 'sum', in the pinned program and in every row, IS THE sha256 OF THE DUMP (.gsa) THAT YtdmambkajegldaaProg.lean LOADS. Nothing in Lean hashes anything: it is a label: what it is worth is what the hold of that sum in a sandbox is worth. -/
noncomputable def Try.pinned : Pinned := { name := "ytdmambkajegldaa", sum := "2b625e9e4b38deb8971d5b7c13eae4624b903342077c5bf169fb57b58e0386c6", checked := Try.checked }
namespace Rows
def none {H : Type} : Left H := { results := [], args := [] }

/-- 'usufructlaw14.CnfOrder': WHATEVER THE INPUT: true; the input reads as it did. -/
def cnfOrderSpec : ChangeSpec := { name := "cnfOrder", fn := fun _ => fun
  | [d1, d2] => { results := [.lit (.bool true)], args := [d1, d2] }
  | _ => none }
def cnfOrderRow : OpenClaim := { program := "ytdmambkajegldaa", sum := "2b625e9e4b38deb8971d5b7c13eae4624b903342077c5bf169fb57b58e0386c6", func := "usufruct/usufructlaw14.CnfOrder", spec := "cnfOrder", unfollowed := true, recurses := true, apart := false }
def CnfOrderSaid : Prop := cnfOrderRow.holds Try.pinned (OpenSpec.ofChange cnfOrderSpec)

/-- ITS FALSE NEIGHBOUR: 'it returns false'. Refute it at one input. -/
def cnfOrderWrong : ChangeSpec := { name := "cnfOrder", fn := fun _ => fun
  | [d1, d2] => { results := [.lit (.bool false)], args := [d1, d2] }
  | _ => none }
def CnfOrderWrongFalsely : Prop := cnfOrderRow.holds Try.pinned (OpenSpec.ofChange cnfOrderWrong)

/-- 'usufructlaw14.CnfBuilds': WHATEVER THE INPUT: true; the input reads as it did. -/
def cnfBuildsSpec : ChangeSpec := { name := "cnfBuilds", fn := fun _ => fun
  | [d] => { results := [.lit (.bool true)], args := [d] }
  | _ => none }
def cnfBuildsRow : OpenClaim := { program := "ytdmambkajegldaa", sum := "2b625e9e4b38deb8971d5b7c13eae4624b903342077c5bf169fb57b58e0386c6", func := "usufruct/usufructlaw14.CnfBuilds", spec := "cnfBuilds", unfollowed := true, recurses := true, apart := false }
def CnfBuildsSaid : Prop := cnfBuildsRow.holds Try.pinned (OpenSpec.ofChange cnfBuildsSpec)

/-- ITS FALSE NEIGHBOUR: 'it returns false'. Refute it at one input. -/
def cnfBuildsWrong : ChangeSpec := { name := "cnfBuilds", fn := fun _ => fun
  | [d] => { results := [.lit (.bool false)], args := [d] }
  | _ => none }
def CnfBuildsWrongFalsely : Prop := cnfBuildsRow.holds Try.pinned (OpenSpec.ofChange cnfBuildsWrong)

/-- 'usufructlaw14.CnfEvals': WHATEVER THE INPUT: true; the input reads as it did. -/
def cnfEvalsSpec : ChangeSpec := { name := "cnfEvals", fn := fun _ => fun
  | [d1, d2, d3] => { results := [.lit (.bool true)], args := [d1, d2, d3] }
  | _ => none }
def cnfEvalsRow : OpenClaim := { program := "ytdmambkajegldaa", sum := "2b625e9e4b38deb8971d5b7c13eae4624b903342077c5bf169fb57b58e0386c6", func := "usufruct/usufructlaw14.CnfEvals", spec := "cnfEvals", unfollowed := true, recurses := true, apart := false }
def CnfEvalsSaid : Prop := cnfEvalsRow.holds Try.pinned (OpenSpec.ofChange cnfEvalsSpec)

/-- ITS FALSE NEIGHBOUR: 'it returns false'. Refute it at one input. -/
def cnfEvalsWrong : ChangeSpec := { name := "cnfEvals", fn := fun _ => fun
  | [d1, d2, d3] => { results := [.lit (.bool false)], args := [d1, d2, d3] }
  | _ => none }
def CnfEvalsWrongFalsely : Prop := cnfEvalsRow.holds Try.pinned (OpenSpec.ofChange cnfEvalsWrong)

/-- 'usufructlaw14.CnfSound': WHATEVER THE INPUT: true; the input reads as it did. -/
def cnfSoundSpec : ChangeSpec := { name := "cnfSound", fn := fun _ => fun
  | [d1, d2, d3, d4, d5, d6] => { results := [.lit (.bool true)], args := [d1, d2, d3, d4, d5, d6] }
  | _ => none }
def cnfSoundRow : OpenClaim := { program := "ytdmambkajegldaa", sum := "2b625e9e4b38deb8971d5b7c13eae4624b903342077c5bf169fb57b58e0386c6", func := "usufruct/usufructlaw14.CnfSound", spec := "cnfSound", unfollowed := true, recurses := true, apart := false }
def CnfSoundSaid : Prop := cnfSoundRow.holds Try.pinned (OpenSpec.ofChange cnfSoundSpec)

/-- ITS FALSE NEIGHBOUR: 'it returns false'. Refute it at one input. -/
def cnfSoundWrong : ChangeSpec := { name := "cnfSound", fn := fun _ => fun
  | [d1, d2, d3, d4, d5, d6] => { results := [.lit (.bool false)], args := [d1, d2, d3, d4, d5, d6] }
  | _ => none }
def CnfSoundWrongFalsely : Prop := cnfSoundRow.holds Try.pinned (OpenSpec.ofChange cnfSoundWrong)

/- THE SECOND FORM. 'bulk': how many values and letters a reading holds, each counted each time it is reached (what is shared counts as often as it is met; a slice's spare places count too). A statement '..UptoSaid' is the law's where the arguments, and the package variables that the reading takes, are together of bulk at most 1048576: NARROWER than '..Said'. Prove '..Said' where nothing that the law and all that it calls make is longer than what came in: it says more and counts as full. Else prove '..UptoSaid'. A law counts once. -/
mutual
def uptoBulk {H : Type} : DataW H → Nat
  | .lit (.string bytes) => bytes.length + 1
  | .lit _ => 1
  | .nil => 1
  | .ptr d => uptoBulk d + 1
  | .slice elems spare => uptoBulkAll elems + uptoBulkAll spare + 1
  | .agg parts => uptoBulkAll parts + 1
  | .iface _ d => uptoBulk d + 1
  | .map entries => uptoBulkEntries entries + 1
  | .held _ => 1
def uptoBulkAll {H : Type} : List (DataW H) → Nat
  | [] => 0
  | d :: r => uptoBulk d + uptoBulkAll r
def uptoBulkEntries {H : Type} : List (Lit × DataW H) → Nat
  | [] => 0
  | x :: r => uptoBulkEntry x + uptoBulkEntries r
def uptoBulkEntry {H : Type} : Lit × DataW H → Nat
  | (.string bytes, d) => bytes.length + uptoBulk d + 1
  | (_, d) => uptoBulk d + 1
 end
def uptoSmall : (H : Type) → List (DataW H) → Bool := fun _ ds => decide (uptoBulkAll ds ≤ 1048576)
def OpenSpec.upto (s : _root_.Go.ChangeSpec) : _root_.Go.OpenSpec := { _root_.Go.OpenSpec.ofChange s with cond := some uptoSmall }

/-- 'usufructlaw14.CnfOrder', WHERE WHAT IT READS IS OF BULK AT MOST 1048576: true; the input reads as it did. -/
def cnfOrderUptoRow : OpenClaim := { program := "ytdmambkajegldaa", sum := "2b625e9e4b38deb8971d5b7c13eae4624b903342077c5bf169fb57b58e0386c6", func := "usufruct/usufructlaw14.CnfOrder", spec := "cnfOrder", unfollowed := true, recurses := true, apart := false, narrowed := true }
def CnfOrderUptoSaid : Prop := cnfOrderUptoRow.holds Try.pinned (OpenSpec.upto cnfOrderSpec)

/-- 'usufructlaw14.CnfBuilds', WHERE WHAT IT READS IS OF BULK AT MOST 1048576: true; the input reads as it did. -/
def cnfBuildsUptoRow : OpenClaim := { program := "ytdmambkajegldaa", sum := "2b625e9e4b38deb8971d5b7c13eae4624b903342077c5bf169fb57b58e0386c6", func := "usufruct/usufructlaw14.CnfBuilds", spec := "cnfBuilds", unfollowed := true, recurses := true, apart := false, narrowed := true }
def CnfBuildsUptoSaid : Prop := cnfBuildsUptoRow.holds Try.pinned (OpenSpec.upto cnfBuildsSpec)

/-- 'usufructlaw14.CnfEvals', WHERE WHAT IT READS IS OF BULK AT MOST 1048576: true; the input reads as it did. -/
def cnfEvalsUptoRow : OpenClaim := { program := "ytdmambkajegldaa", sum := "2b625e9e4b38deb8971d5b7c13eae4624b903342077c5bf169fb57b58e0386c6", func := "usufruct/usufructlaw14.CnfEvals", spec := "cnfEvals", unfollowed := true, recurses := true, apart := false, narrowed := true }
def CnfEvalsUptoSaid : Prop := cnfEvalsUptoRow.holds Try.pinned (OpenSpec.upto cnfEvalsSpec)

/-- 'usufructlaw14.CnfSound', WHERE WHAT IT READS IS OF BULK AT MOST 1048576: true; the input reads as it did. -/
def cnfSoundUptoRow : OpenClaim := { program := "ytdmambkajegldaa", sum := "2b625e9e4b38deb8971d5b7c13eae4624b903342077c5bf169fb57b58e0386c6", func := "usufruct/usufructlaw14.CnfSound", spec := "cnfSound", unfollowed := true, recurses := true, apart := false, narrowed := true }
def CnfSoundUptoSaid : Prop := cnfSoundUptoRow.holds Try.pinned (OpenSpec.upto cnfSoundSpec)

end Rows
end Go.Proofs.Ytdmambkajegldaa
