/-
  No cell of these rows narrows 'for every input' (looked for: loops, veiled, ifaces, maps, wideKeys, modest, calm, conditions, laid).
  DERIVED. THE GIVEN ROWS OF THIS SEAT. 7 by the template 'for every input the law returns true; each argument reads behind the call as it read before'; 0 by the template 'total and deterministic' (their statements: YtchedkjlhjfadaaTotals.lean).
  GIVEN WITH THE SEED: the statements are not yours to turn. If you find one false, say at which input.
  Laid BY PROGRAM, IN A SANDBOX (cutbox-rows.mjs): the forced cells as the released guide's own fill.sh prints them over the translation c7491d87353f992c… (all of the seat's roots in one cut). By AI agents, Wed Nov 11 2026. No macro, syntax, notation, axiom, sorry.
-/
import Derived.Test.YtchedkjlhjfadaaChecked
import GoSem.Claim
import GoSem.ClaimJoined
import GoSem.ClaimMapViews
import Derived.JoinedTies
import Derived.KernelRfl
namespace Go.Proofs.Ytchedkjlhjfadaa
/- THE CELL 'sum', in the pinned program and in every row, IS THE sha256 OF THE DUMP (.gsa) THAT YtchedkjlhjfadaaProg.lean LOADS. Nothing in Lean hashes anything: it is a label: what it is worth is what the hold of that sum in a sandbox is worth. -/
noncomputable def Try.pinned : Pinned := { name := "ytchedkjlhjfadaa", sum := "c7491d87353f992cf732c9e04bd8d2af3fa0816d70970d5abb1b309f04e591b4", checked := Try.checked }
namespace Rows
def none {H : Type} : Left H := { results := [], args := [] }

/-- 'usufructlaw16.ProofRefutes': WHATEVER THE INPUT: true; the input reads as it did. -/
def proofRefutesSpec : ChangeSpec := { name := "proofRefutes", fn := fun _ => fun
  | [d] => { results := [.lit (.bool true)], args := [d] }
  | _ => none }
def proofRefutesRow : OpenClaim := { program := "ytchedkjlhjfadaa", sum := "c7491d87353f992cf732c9e04bd8d2af3fa0816d70970d5abb1b309f04e591b4", func := "usufruct/usufructlaw16.ProofRefutes", spec := "proofRefutes", unfollowed := true, recurses := true, apart := false }
def ProofRefutesSaid : Prop := proofRefutesRow.holds Try.pinned (OpenSpec.ofChange proofRefutesSpec)

/-- ITS FALSE NEIGHBOUR: 'it returns false'. Refute it at one input. -/
def proofRefutesWrong : ChangeSpec := { name := "proofRefutes", fn := fun _ => fun
  | [d] => { results := [.lit (.bool false)], args := [d] }
  | _ => none }
def ProofRefutesWrongFalsely : Prop := proofRefutesRow.holds Try.pinned (OpenSpec.ofChange proofRefutesWrong)

/-- 'usufructlaw16.ProofSound': WHATEVER THE INPUT: true; the input reads as it did. -/
def proofSoundSpec : ChangeSpec := { name := "proofSound", fn := fun _ => fun
  | [d1, d2, d3] => { results := [.lit (.bool true)], args := [d1, d2, d3] }
  | _ => none }
def proofSoundRow : OpenClaim := { program := "ytchedkjlhjfadaa", sum := "c7491d87353f992cf732c9e04bd8d2af3fa0816d70970d5abb1b309f04e591b4", func := "usufruct/usufructlaw16.ProofSound", spec := "proofSound", unfollowed := true, recurses := true, apart := false }
def ProofSoundSaid : Prop := proofSoundRow.holds Try.pinned (OpenSpec.ofChange proofSoundSpec)

/-- ITS FALSE NEIGHBOUR: 'it returns false'. Refute it at one input. -/
def proofSoundWrong : ChangeSpec := { name := "proofSound", fn := fun _ => fun
  | [d1, d2, d3] => { results := [.lit (.bool false)], args := [d1, d2, d3] }
  | _ => none }
def ProofSoundWrongFalsely : Prop := proofSoundRow.holds Try.pinned (OpenSpec.ofChange proofSoundWrong)

/-- 'usufructlaw16.ProofCores': WHATEVER THE INPUT: true; the input reads as it did. -/
def proofCoresSpec : ChangeSpec := { name := "proofCores", fn := fun _ => fun
  | [d] => { results := [.lit (.bool true)], args := [d] }
  | _ => none }
def proofCoresRow : OpenClaim := { program := "ytchedkjlhjfadaa", sum := "c7491d87353f992cf732c9e04bd8d2af3fa0816d70970d5abb1b309f04e591b4", func := "usufruct/usufructlaw16.ProofCores", spec := "proofCores", unfollowed := true, recurses := true, apart := false }
def ProofCoresSaid : Prop := proofCoresRow.holds Try.pinned (OpenSpec.ofChange proofCoresSpec)

/-- ITS FALSE NEIGHBOUR: 'it returns false'. Refute it at one input. -/
def proofCoresWrong : ChangeSpec := { name := "proofCores", fn := fun _ => fun
  | [d] => { results := [.lit (.bool false)], args := [d] }
  | _ => none }
def ProofCoresWrongFalsely : Prop := proofCoresRow.holds Try.pinned (OpenSpec.ofChange proofCoresWrong)

/-- 'usufructlaw16.ProofTrims': WHATEVER THE INPUT: true; the input reads as it did. -/
def proofTrimsSpec : ChangeSpec := { name := "proofTrims", fn := fun _ => fun
  | [d1, d2] => { results := [.lit (.bool true)], args := [d1, d2] }
  | _ => none }
def proofTrimsRow : OpenClaim := { program := "ytchedkjlhjfadaa", sum := "c7491d87353f992cf732c9e04bd8d2af3fa0816d70970d5abb1b309f04e591b4", func := "usufruct/usufructlaw16.ProofTrims", spec := "proofTrims", unfollowed := true, recurses := true, apart := false }
def ProofTrimsSaid : Prop := proofTrimsRow.holds Try.pinned (OpenSpec.ofChange proofTrimsSpec)

/-- ITS FALSE NEIGHBOUR: 'it returns false'. Refute it at one input. -/
def proofTrimsWrong : ChangeSpec := { name := "proofTrims", fn := fun _ => fun
  | [d1, d2] => { results := [.lit (.bool false)], args := [d1, d2] }
  | _ => none }
def ProofTrimsWrongFalsely : Prop := proofTrimsRow.holds Try.pinned (OpenSpec.ofChange proofTrimsWrong)

/-- 'usufructlaw15.SolveFixed': WHATEVER THE INPUT: true; the input reads as it did. -/
def solveFixedSpec : ChangeSpec := { name := "solveFixed", fn := fun _ => fun
  | [d1, d2] => { results := [.lit (.bool true)], args := [d1, d2] }
  | _ => none }
def solveFixedRow : OpenClaim := { program := "ytchedkjlhjfadaa", sum := "c7491d87353f992cf732c9e04bd8d2af3fa0816d70970d5abb1b309f04e591b4", func := "usufruct/usufructlaw15.SolveFixed", spec := "solveFixed", unfollowed := true, recurses := true, apart := false }
def SolveFixedSaid : Prop := solveFixedRow.holds Try.pinned (OpenSpec.ofChange solveFixedSpec)

/-- ITS FALSE NEIGHBOUR: 'it returns false'. Refute it at one input. -/
def solveFixedWrong : ChangeSpec := { name := "solveFixed", fn := fun _ => fun
  | [d1, d2] => { results := [.lit (.bool false)], args := [d1, d2] }
  | _ => none }
def SolveFixedWrongFalsely : Prop := solveFixedRow.holds Try.pinned (OpenSpec.ofChange solveFixedWrong)

/-- 'usufructlaw15.SolveAssumes': WHATEVER THE INPUT: true; the input reads as it did. -/
def solveAssumesSpec : ChangeSpec := { name := "solveAssumes", fn := fun _ => fun
  | [d1, d2] => { results := [.lit (.bool true)], args := [d1, d2] }
  | _ => none }
def solveAssumesRow : OpenClaim := { program := "ytchedkjlhjfadaa", sum := "c7491d87353f992cf732c9e04bd8d2af3fa0816d70970d5abb1b309f04e591b4", func := "usufruct/usufructlaw15.SolveAssumes", spec := "solveAssumes", unfollowed := true, recurses := true, apart := false }
def SolveAssumesSaid : Prop := solveAssumesRow.holds Try.pinned (OpenSpec.ofChange solveAssumesSpec)

/-- ITS FALSE NEIGHBOUR: 'it returns false'. Refute it at one input. -/
def solveAssumesWrong : ChangeSpec := { name := "solveAssumes", fn := fun _ => fun
  | [d1, d2] => { results := [.lit (.bool false)], args := [d1, d2] }
  | _ => none }
def SolveAssumesWrongFalsely : Prop := solveAssumesRow.holds Try.pinned (OpenSpec.ofChange solveAssumesWrong)

/-- 'usufructlaw15.SolvePure': WHATEVER THE INPUT: true; the input reads as it did. -/
def solvePureSpec : ChangeSpec := { name := "solvePure", fn := fun _ => fun
  | [d] => { results := [.lit (.bool true)], args := [d] }
  | _ => none }
def solvePureRow : OpenClaim := { program := "ytchedkjlhjfadaa", sum := "c7491d87353f992cf732c9e04bd8d2af3fa0816d70970d5abb1b309f04e591b4", func := "usufruct/usufructlaw15.SolvePure", spec := "solvePure", unfollowed := true, recurses := true, apart := false }
def SolvePureSaid : Prop := solvePureRow.holds Try.pinned (OpenSpec.ofChange solvePureSpec)

/-- ITS FALSE NEIGHBOUR: 'it returns false'. Refute it at one input. -/
def solvePureWrong : ChangeSpec := { name := "solvePure", fn := fun _ => fun
  | [d] => { results := [.lit (.bool false)], args := [d] }
  | _ => none }
def SolvePureWrongFalsely : Prop := solvePureRow.holds Try.pinned (OpenSpec.ofChange solvePureWrong)

/- THE SECOND FORM. 'bulk': how many values and letters a reading holds, each counted each time it is reached (what is shared counts as often as it is met; a slice's spare places count too). A statement '..UptoSaid' is the law's where the arguments, and the package variables that the reading takes, are together of bulk at most 1048576: NARROWER than '..Said'. Prove '..Said' where nothing that the law and all that it calls make is longer than what came in: it says more and counts as full. Else prove '..UptoSaid'. A law counts once. -/
mutual
def uptoBulk {H : Type} : DataW H → Nat
  | .lit (.string bytes) => bytes.length + 1
  | .lit _ => 1
  | .nil => 1
  | .ptr d => uptoBulk d + 1
  | .slice elems spare => uptoBulkAll elems + uptoBulkAll spare + 1
  | .agg parts => uptoBulkAll parts + 1
  | .iface _ d => uptoBulk d + 1
  | .map entries => uptoBulkEntries entries + 1
  | .held _ => 1
def uptoBulkAll {H : Type} : List (DataW H) → Nat
  | [] => 0
  | d :: r => uptoBulk d + uptoBulkAll r
def uptoBulkEntries {H : Type} : List (Lit × DataW H) → Nat
  | [] => 0
  | x :: r => uptoBulkEntry x + uptoBulkEntries r
def uptoBulkEntry {H : Type} : Lit × DataW H → Nat
  | (.string bytes, d) => bytes.length + uptoBulk d + 1
  | (_, d) => uptoBulk d + 1
 end
def uptoSmall : (H : Type) → List (DataW H) → Bool := fun _ ds => decide (uptoBulkAll ds ≤ 1048576)
def OpenSpec.upto (s : _root_.Go.ChangeSpec) : _root_.Go.OpenSpec := { _root_.Go.OpenSpec.ofChange s with cond := some uptoSmall }

/-- 'usufructlaw16.ProofRefutes', WHERE WHAT IT READS IS OF BULK AT MOST 1048576: true; the input reads as it did. -/
def proofRefutesUptoRow : OpenClaim := { program := "ytchedkjlhjfadaa", sum := "c7491d87353f992cf732c9e04bd8d2af3fa0816d70970d5abb1b309f04e591b4", func := "usufruct/usufructlaw16.ProofRefutes", spec := "proofRefutes", unfollowed := true, recurses := true, apart := false, narrowed := true }
def ProofRefutesUptoSaid : Prop := proofRefutesUptoRow.holds Try.pinned (OpenSpec.upto proofRefutesSpec)

/-- 'usufructlaw16.ProofSound', WHERE WHAT IT READS IS OF BULK AT MOST 1048576: true; the input reads as it did. -/
def proofSoundUptoRow : OpenClaim := { program := "ytchedkjlhjfadaa", sum := "c7491d87353f992cf732c9e04bd8d2af3fa0816d70970d5abb1b309f04e591b4", func := "usufruct/usufructlaw16.ProofSound", spec := "proofSound", unfollowed := true, recurses := true, apart := false, narrowed := true }
def ProofSoundUptoSaid : Prop := proofSoundUptoRow.holds Try.pinned (OpenSpec.upto proofSoundSpec)

/-- 'usufructlaw16.ProofCores', WHERE WHAT IT READS IS OF BULK AT MOST 1048576: true; the input reads as it did. -/
def proofCoresUptoRow : OpenClaim := { program := "ytchedkjlhjfadaa", sum := "c7491d87353f992cf732c9e04bd8d2af3fa0816d70970d5abb1b309f04e591b4", func := "usufruct/usufructlaw16.ProofCores", spec := "proofCores", unfollowed := true, recurses := true, apart := false, narrowed := true }
def ProofCoresUptoSaid : Prop := proofCoresUptoRow.holds Try.pinned (OpenSpec.upto proofCoresSpec)

/-- 'usufructlaw16.ProofTrims', WHERE WHAT IT READS IS OF BULK AT MOST 1048576: true; the input reads as it did. -/
def proofTrimsUptoRow : OpenClaim := { program := "ytchedkjlhjfadaa", sum := "c7491d87353f992cf732c9e04bd8d2af3fa0816d70970d5abb1b309f04e591b4", func := "usufruct/usufructlaw16.ProofTrims", spec := "proofTrims", unfollowed := true, recurses := true, apart := false, narrowed := true }
def ProofTrimsUptoSaid : Prop := proofTrimsUptoRow.holds Try.pinned (OpenSpec.upto proofTrimsSpec)

/-- 'usufructlaw15.SolveFixed', WHERE WHAT IT READS IS OF BULK AT MOST 1048576: true; the input reads as it did. -/
def solveFixedUptoRow : OpenClaim := { program := "ytchedkjlhjfadaa", sum := "c7491d87353f992cf732c9e04bd8d2af3fa0816d70970d5abb1b309f04e591b4", func := "usufruct/usufructlaw15.SolveFixed", spec := "solveFixed", unfollowed := true, recurses := true, apart := false, narrowed := true }
def SolveFixedUptoSaid : Prop := solveFixedUptoRow.holds Try.pinned (OpenSpec.upto solveFixedSpec)

/-- 'usufructlaw15.SolveAssumes', WHERE WHAT IT READS IS OF BULK AT MOST 1048576: true; the input reads as it did. -/
def solveAssumesUptoRow : OpenClaim := { program := "ytchedkjlhjfadaa", sum := "c7491d87353f992cf732c9e04bd8d2af3fa0816d70970d5abb1b309f04e591b4", func := "usufruct/usufructlaw15.SolveAssumes", spec := "solveAssumes", unfollowed := true, recurses := true, apart := false, narrowed := true }
def SolveAssumesUptoSaid : Prop := solveAssumesUptoRow.holds Try.pinned (OpenSpec.upto solveAssumesSpec)

/-- 'usufructlaw15.SolvePure', WHERE WHAT IT READS IS OF BULK AT MOST 1048576: true; the input reads as it did. -/
def solvePureUptoRow : OpenClaim := { program := "ytchedkjlhjfadaa", sum := "c7491d87353f992cf732c9e04bd8d2af3fa0816d70970d5abb1b309f04e591b4", func := "usufruct/usufructlaw15.SolvePure", spec := "solvePure", unfollowed := true, recurses := true, apart := false, narrowed := true }
def SolvePureUptoSaid : Prop := solvePureUptoRow.holds Try.pinned (OpenSpec.upto solvePureSpec)

end Rows
end Go.Proofs.Ytchedkjlhjfadaa
