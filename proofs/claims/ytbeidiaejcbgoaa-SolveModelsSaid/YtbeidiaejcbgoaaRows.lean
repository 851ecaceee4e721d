/-
  No cell of these rows narrows 'for every input' (looked for: loops, veiled, ifaces, maps, wideKeys, modest, calm, conditions, laid).
  DERIVED. THE GIVEN ROWS OF THIS SEAT. 5 by the template 'for every input the law returns true; each argument reads behind the call as it read before'; 0 by the template 'total and deterministic' (their statements: YtbeidiaejcbgoaaTotals.lean).
  GIVEN WITH THE SEED: the statements are not yours to turn. If you find one false, say at which input.
  Laid BY PROGRAM, IN A SANDBOX (cutbox-rows.mjs): the forced cells as the released guide's own fill.sh prints them over the translation 571e72e855e9845e… (all of the seat's roots in one cut). By AI agents, Wed Nov 11 2026. No macro, syntax, notation, axiom, sorry.
-/
import Derived.Test.YtbeidiaejcbgoaaChecked
import GoSem.Claim
import GoSem.ClaimJoined
import GoSem.ClaimMapViews
import Derived.JoinedTies
import Derived.KernelRfl
namespace Go.Proofs.Ytbeidiaejcbgoaa
/- THE CELL 'sum', in the pinned program and in every row, IS THE sha256 OF THE DUMP (.gsa) THAT YtbeidiaejcbgoaaProg.lean LOADS. Nothing in Lean hashes anything: it is a label: what it is worth is what the hold of that sum in a sandbox is worth. -/
noncomputable def Try.pinned : Pinned := { name := "ytbeidiaejcbgoaa", sum := "571e72e855e9845e71582fad6cc4db1172bb5f05129ae808354e1267a8bfc51d", checked := Try.checked }
namespace Rows
def none {H : Type} : Left H := { results := [], args := [] }

/-- 'usufructlaw15.SolveSound': WHATEVER THE INPUT: true; the input reads as it did. -/
def solveSoundSpec : ChangeSpec := { name := "solveSound", fn := fun _ => fun
  | [d1, d2] => { results := [.lit (.bool true)], args := [d1, d2] }
  | _ => none }
def solveSoundRow : OpenClaim := { program := "ytbeidiaejcbgoaa", sum := "571e72e855e9845e71582fad6cc4db1172bb5f05129ae808354e1267a8bfc51d", func := "usufruct/usufructlaw15.SolveSound", spec := "solveSound", unfollowed := true, recurses := true, apart := false }
def SolveSoundSaid : Prop := solveSoundRow.holds Try.pinned (OpenSpec.ofChange solveSoundSpec)

/-- ITS FALSE NEIGHBOUR: 'it returns false'. Refute it at one input. -/
def solveSoundWrong : ChangeSpec := { name := "solveSound", fn := fun _ => fun
  | [d1, d2] => { results := [.lit (.bool false)], args := [d1, d2] }
  | _ => none }
def SolveSoundWrongFalsely : Prop := solveSoundRow.holds Try.pinned (OpenSpec.ofChange solveSoundWrong)

/-- 'usufructlaw15.SolveModels': WHATEVER THE INPUT: true; the input reads as it did. -/
def solveModelsSpec : ChangeSpec := { name := "solveModels", fn := fun _ => fun
  | [d1, d2, d3] => { results := [.lit (.bool true)], args := [d1, d2, d3] }
  | _ => none }
def solveModelsRow : OpenClaim := { program := "ytbeidiaejcbgoaa", sum := "571e72e855e9845e71582fad6cc4db1172bb5f05129ae808354e1267a8bfc51d", func := "usufruct/usufructlaw15.SolveModels", spec := "solveModels", unfollowed := true, recurses := true, apart := false }
def SolveModelsSaid : Prop := solveModelsRow.holds Try.pinned (OpenSpec.ofChange solveModelsSpec)

/-- ITS FALSE NEIGHBOUR: 'it returns false'. Refute it at one input. -/
def solveModelsWrong : ChangeSpec := { name := "solveModels", fn := fun _ => fun
  | [d1, d2, d3] => { results := [.lit (.bool false)], args := [d1, d2, d3] }
  | _ => none }
def SolveModelsWrongFalsely : Prop := solveModelsRow.holds Try.pinned (OpenSpec.ofChange solveModelsWrong)

/-- 'usufructlaw15.SolveFixed': WHATEVER THE INPUT: true; the input reads as it did. -/
def solveFixedSpec : ChangeSpec := { name := "solveFixed", fn := fun _ => fun
  | [d1, d2] => { results := [.lit (.bool true)], args := [d1, d2] }
  | _ => none }
def solveFixedRow : OpenClaim := { program := "ytbeidiaejcbgoaa", sum := "571e72e855e9845e71582fad6cc4db1172bb5f05129ae808354e1267a8bfc51d", func := "usufruct/usufructlaw15.SolveFixed", spec := "solveFixed", unfollowed := true, recurses := true, apart := false }
def SolveFixedSaid : Prop := solveFixedRow.holds Try.pinned (OpenSpec.ofChange solveFixedSpec)

/-- ITS FALSE NEIGHBOUR: 'it returns false'. Refute it at one input. -/
def solveFixedWrong : ChangeSpec := { name := "solveFixed", fn := fun _ => fun
  | [d1, d2] => { results := [.lit (.bool false)], args := [d1, d2] }
  | _ => none }
def SolveFixedWrongFalsely : Prop := solveFixedRow.holds Try.pinned (OpenSpec.ofChange solveFixedWrong)

/-- 'usufructlaw15.SolveAssumes': WHATEVER THE INPUT: true; the input reads as it did. -/
def solveAssumesSpec : ChangeSpec := { name := "solveAssumes", fn := fun _ => fun
  | [d1, d2] => { results := [.lit (.bool true)], args := [d1, d2] }
  | _ => none }
def solveAssumesRow : OpenClaim := { program := "ytbeidiaejcbgoaa", sum := "571e72e855e9845e71582fad6cc4db1172bb5f05129ae808354e1267a8bfc51d", func := "usufruct/usufructlaw15.SolveAssumes", spec := "solveAssumes", unfollowed := true, recurses := true, apart := false }
def SolveAssumesSaid : Prop := solveAssumesRow.holds Try.pinned (OpenSpec.ofChange solveAssumesSpec)

/-- ITS FALSE NEIGHBOUR: 'it returns false'. Refute it at one input. -/
def solveAssumesWrong : ChangeSpec := { name := "solveAssumes", fn := fun _ => fun
  | [d1, d2] => { results := [.lit (.bool false)], args := [d1, d2] }
  | _ => none }
def SolveAssumesWrongFalsely : Prop := solveAssumesRow.holds Try.pinned (OpenSpec.ofChange solveAssumesWrong)

/-- 'usufructlaw15.SolvePure': WHATEVER THE INPUT: true; the input reads as it did. -/
def solvePureSpec : ChangeSpec := { name := "solvePure", fn := fun _ => fun
  | [d] => { results := [.lit (.bool true)], args := [d] }
  | _ => none }
def solvePureRow : OpenClaim := { program := "ytbeidiaejcbgoaa", sum := "571e72e855e9845e71582fad6cc4db1172bb5f05129ae808354e1267a8bfc51d", func := "usufruct/usufructlaw15.SolvePure", spec := "solvePure", unfollowed := true, recurses := true, apart := false }
def SolvePureSaid : Prop := solvePureRow.holds Try.pinned (OpenSpec.ofChange solvePureSpec)

/-- ITS FALSE NEIGHBOUR: 'it returns false'. Refute it at one input. -/
def solvePureWrong : ChangeSpec := { name := "solvePure", fn := fun _ => fun
  | [d] => { results := [.lit (.bool false)], args := [d] }
  | _ => none }
def SolvePureWrongFalsely : Prop := solvePureRow.holds Try.pinned (OpenSpec.ofChange solvePureWrong)

/- THE SECOND FORM. 'bulk': how many values and letters a reading holds, each counted each time it is reached (what is shared counts as often as it is met; a slice's spare places count too). A statement '..UptoSaid' is the law's where the arguments, and the package variables that the reading takes, are together of bulk at most 1048576: NARROWER than '..Said'. Prove '..Said' where nothing that the law and all that it calls make is longer than what came in: it says more and counts as full. Else prove '..UptoSaid'. A law counts once. -/
mutual
def uptoBulk {H : Type} : DataW H → Nat
  | .lit (.string bytes) => bytes.length + 1
  | .lit _ => 1
  | .nil => 1
  | .ptr d => uptoBulk d + 1
  | .slice elems spare => uptoBulkAll elems + uptoBulkAll spare + 1
  | .agg parts => uptoBulkAll parts + 1
  | .iface _ d => uptoBulk d + 1
  | .map entries => uptoBulkEntries entries + 1
  | .held _ => 1
def uptoBulkAll {H : Type} : List (DataW H) → Nat
  | [] => 0
  | d :: r => uptoBulk d + uptoBulkAll r
def uptoBulkEntries {H : Type} : List (Lit × DataW H) → Nat
  | [] => 0
  | x :: r => uptoBulkEntry x + uptoBulkEntries r
def uptoBulkEntry {H : Type} : Lit × DataW H → Nat
  | (.string bytes, d) => bytes.length + uptoBulk d + 1
  | (_, d) => uptoBulk d + 1
 end
def uptoSmall : (H : Type) → List (DataW H) → Bool := fun _ ds => decide (uptoBulkAll ds ≤ 1048576)
def OpenSpec.upto (s : _root_.Go.ChangeSpec) : _root_.Go.OpenSpec := { _root_.Go.OpenSpec.ofChange s with cond := some uptoSmall }

/-- 'usufructlaw15.SolveSound', WHERE WHAT IT READS IS OF BULK AT MOST 1048576: true; the input reads as it did. -/
def solveSoundUptoRow : OpenClaim := { program := "ytbeidiaejcbgoaa", sum := "571e72e855e9845e71582fad6cc4db1172bb5f05129ae808354e1267a8bfc51d", func := "usufruct/usufructlaw15.SolveSound", spec := "solveSound", unfollowed := true, recurses := true, apart := false, narrowed := true }
def SolveSoundUptoSaid : Prop := solveSoundUptoRow.holds Try.pinned (OpenSpec.upto solveSoundSpec)

/-- 'usufructlaw15.SolveModels', WHERE WHAT IT READS IS OF BULK AT MOST 1048576: true; the input reads as it did. -/
def solveModelsUptoRow : OpenClaim := { program := "ytbeidiaejcbgoaa", sum := "571e72e855e9845e71582fad6cc4db1172bb5f05129ae808354e1267a8bfc51d", func := "usufruct/usufructlaw15.SolveModels", spec := "solveModels", unfollowed := true, recurses := true, apart := false, narrowed := true }
def SolveModelsUptoSaid : Prop := solveModelsUptoRow.holds Try.pinned (OpenSpec.upto solveModelsSpec)

/-- 'usufructlaw15.SolveFixed', WHERE WHAT IT READS IS OF BULK AT MOST 1048576: true; the input reads as it did. -/
def solveFixedUptoRow : OpenClaim := { program := "ytbeidiaejcbgoaa", sum := "571e72e855e9845e71582fad6cc4db1172bb5f05129ae808354e1267a8bfc51d", func := "usufruct/usufructlaw15.SolveFixed", spec := "solveFixed", unfollowed := true, recurses := true, apart := false, narrowed := true }
def SolveFixedUptoSaid : Prop := solveFixedUptoRow.holds Try.pinned (OpenSpec.upto solveFixedSpec)

/-- 'usufructlaw15.SolveAssumes', WHERE WHAT IT READS IS OF BULK AT MOST 1048576: true; the input reads as it did. -/
def solveAssumesUptoRow : OpenClaim := { program := "ytbeidiaejcbgoaa", sum := "571e72e855e9845e71582fad6cc4db1172bb5f05129ae808354e1267a8bfc51d", func := "usufruct/usufructlaw15.SolveAssumes", spec := "solveAssumes", unfollowed := true, recurses := true, apart := false, narrowed := true }
def SolveAssumesUptoSaid : Prop := solveAssumesUptoRow.holds Try.pinned (OpenSpec.upto solveAssumesSpec)

/-- 'usufructlaw15.SolvePure', WHERE WHAT IT READS IS OF BULK AT MOST 1048576: true; the input reads as it did. -/
def solvePureUptoRow : OpenClaim := { program := "ytbeidiaejcbgoaa", sum := "571e72e855e9845e71582fad6cc4db1172bb5f05129ae808354e1267a8bfc51d", func := "usufruct/usufructlaw15.SolvePure", spec := "solvePure", unfollowed := true, recurses := true, apart := false, narrowed := true }
def SolvePureUptoSaid : Prop := solvePureUptoRow.holds Try.pinned (OpenSpec.upto solvePureSpec)

end Rows
end Go.Proofs.Ytbeidiaejcbgoaa
