/-
  No cell of these rows narrows 'for every input' (looked for: loops, veiled, ifaces, maps, wideKeys, modest, calm, conditions, laid).
  DERIVED. THE GIVEN ROWS OF THIS SEAT. 4 by the template 'for every input the law returns true; each argument reads behind the call as it read before'; 0 by the template 'total and deterministic' (their statements: YtkflggjdlflndaaGreatTotals.lean).
  GIVEN WITH THE SEED: the statements are not yours to turn. If you find one false, say at which input.
  Laid BY PROGRAM, IN A SANDBOX (cutbox-rows.mjs): the forced cells as the released guide's own fill.sh prints them over the translation 75917daaf2aa96cd… (all of the seat's roots in one cut). By AI agents, Wed Nov 11 2026. No macro, syntax, notation, axiom, sorry.
-/
import Derived.Test.YtkflggjdlflndaaGreatChecked
import GoSem.Claim
import GoSem.ClaimJoined
import GoSem.ClaimMapViews
import Derived.JoinedTies
import Derived.KernelRfl
namespace Go.Proofs.YtkflggjdlflndaaGreat
/- THE CELL 'sum', in the pinned program and in every row, IS THE sha256 OF THE DUMP (.gsa) THAT YtkflggjdlflndaaGreatProg.lean LOADS. Nothing in Lean hashes anything: it is a label: what it is worth is what the hold of that sum in a sandbox is worth. -/
noncomputable def Tryz.pinned : Pinned := { name := "ytkflggjdlflndaagreat", sum := "75917daaf2aa96cd304fc980f646afd142f59d1fbcd078c115f84545c21304c9", checked := Tryz.checked }
namespace Rows
def none {H : Type} : Left H := { results := [], args := [] }

/-- 'usufructlaw07.McrunRuns': WHATEVER THE INPUT: true; the input reads as it did. -/
def mcrunRunsSpec : ChangeSpec := { name := "mcrunRuns", fn := fun _ => fun
  | [d1, d2, d3, d4] => { results := [.lit (.bool true)], args := [d1, d2, d3, d4] }
  | _ => none }
def mcrunRunsRow : OpenClaim := { program := "ytkflggjdlflndaagreat", sum := "75917daaf2aa96cd304fc980f646afd142f59d1fbcd078c115f84545c21304c9", func := "usufruct/usufructlaw07.McrunRuns", spec := "mcrunRuns", unfollowed := true, recurses := true, apart := false }
def McrunRunsSaid : Prop := mcrunRunsRow.holds Tryz.pinned (OpenSpec.ofChange mcrunRunsSpec)

/-- ITS FALSE NEIGHBOUR: 'it returns false'. Refute it at one input. -/
def mcrunRunsWrong : ChangeSpec := { name := "mcrunRuns", fn := fun _ => fun
  | [d1, d2, d3, d4] => { results := [.lit (.bool false)], args := [d1, d2, d3, d4] }
  | _ => none }
def McrunRunsWrongFalsely : Prop := mcrunRunsRow.holds Tryz.pinned (OpenSpec.ofChange mcrunRunsWrong)

/-- 'usufructlaw07.McrunSteps': WHATEVER THE INPUT: true; the input reads as it did. -/
def mcrunStepsSpec : ChangeSpec := { name := "mcrunSteps", fn := fun _ => fun
  | [d1, d2, d3, d4] => { results := [.lit (.bool true)], args := [d1, d2, d3, d4] }
  | _ => none }
def mcrunStepsRow : OpenClaim := { program := "ytkflggjdlflndaagreat", sum := "75917daaf2aa96cd304fc980f646afd142f59d1fbcd078c115f84545c21304c9", func := "usufruct/usufructlaw07.McrunSteps", spec := "mcrunSteps", unfollowed := true, recurses := true, apart := false }
def McrunStepsSaid : Prop := mcrunStepsRow.holds Tryz.pinned (OpenSpec.ofChange mcrunStepsSpec)

/-- ITS FALSE NEIGHBOUR: 'it returns false'. Refute it at one input. -/
def mcrunStepsWrong : ChangeSpec := { name := "mcrunSteps", fn := fun _ => fun
  | [d1, d2, d3, d4] => { results := [.lit (.bool false)], args := [d1, d2, d3, d4] }
  | _ => none }
def McrunStepsWrongFalsely : Prop := mcrunStepsRow.holds Tryz.pinned (OpenSpec.ofChange mcrunStepsWrong)

/-- 'usufructlaw07.McrunMore': WHATEVER THE INPUT: true; the input reads as it did. -/
def mcrunMoreSpec : ChangeSpec := { name := "mcrunMore", fn := fun _ => fun
  | [d1, d2, d3, d4, d5] => { results := [.lit (.bool true)], args := [d1, d2, d3, d4, d5] }
  | _ => none }
def mcrunMoreRow : OpenClaim := { program := "ytkflggjdlflndaagreat", sum := "75917daaf2aa96cd304fc980f646afd142f59d1fbcd078c115f84545c21304c9", func := "usufruct/usufructlaw07.McrunMore", spec := "mcrunMore", unfollowed := true, recurses := true, apart := false }
def McrunMoreSaid : Prop := mcrunMoreRow.holds Tryz.pinned (OpenSpec.ofChange mcrunMoreSpec)

/-- ITS FALSE NEIGHBOUR: 'it returns false'. Refute it at one input. -/
def mcrunMoreWrong : ChangeSpec := { name := "mcrunMore", fn := fun _ => fun
  | [d1, d2, d3, d4, d5] => { results := [.lit (.bool false)], args := [d1, d2, d3, d4, d5] }
  | _ => none }
def McrunMoreWrongFalsely : Prop := mcrunMoreRow.holds Tryz.pinned (OpenSpec.ofChange mcrunMoreWrong)

/-- 'usufructlaw07.McrunTail': WHATEVER THE INPUT: true; the input reads as it did. -/
def mcrunTailSpec : ChangeSpec := { name := "mcrunTail", fn := fun _ => fun
  | [d1, d2, d3, d4, d5] => { results := [.lit (.bool true)], args := [d1, d2, d3, d4, d5] }
  | _ => none }
def mcrunTailRow : OpenClaim := { program := "ytkflggjdlflndaagreat", sum := "75917daaf2aa96cd304fc980f646afd142f59d1fbcd078c115f84545c21304c9", func := "usufruct/usufructlaw07.McrunTail", spec := "mcrunTail", unfollowed := true, recurses := true, apart := false }
def McrunTailSaid : Prop := mcrunTailRow.holds Tryz.pinned (OpenSpec.ofChange mcrunTailSpec)

/-- ITS FALSE NEIGHBOUR: 'it returns false'. Refute it at one input. -/
def mcrunTailWrong : ChangeSpec := { name := "mcrunTail", fn := fun _ => fun
  | [d1, d2, d3, d4, d5] => { results := [.lit (.bool false)], args := [d1, d2, d3, d4, d5] }
  | _ => none }
def McrunTailWrongFalsely : Prop := mcrunTailRow.holds Tryz.pinned (OpenSpec.ofChange mcrunTailWrong)

/- THE SECOND FORM. 'bulk': how many values and letters a reading holds, each counted each time it is reached (what is shared counts as often as it is met; a slice's spare places count too). A statement '..UptoSaid' is the law's where the arguments, and the package variables that the reading takes, are together of bulk at most 1048576: NARROWER than '..Said'. Prove '..Said' where nothing that the law and all that it calls make is longer than what came in: it says more and counts as full. Else prove '..UptoSaid'. A law counts once. -/
mutual
def uptoBulk {H : Type} : DataW H → Nat
  | .lit (.string bytes) => bytes.length + 1
  | .lit _ => 1
  | .nil => 1
  | .ptr d => uptoBulk d + 1
  | .slice elems spare => uptoBulkAll elems + uptoBulkAll spare + 1
  | .agg parts => uptoBulkAll parts + 1
  | .iface _ d => uptoBulk d + 1
  | .map entries => uptoBulkEntries entries + 1
  | .held _ => 1
def uptoBulkAll {H : Type} : List (DataW H) → Nat
  | [] => 0
  | d :: r => uptoBulk d + uptoBulkAll r
def uptoBulkEntries {H : Type} : List (Lit × DataW H) → Nat
  | [] => 0
  | x :: r => uptoBulkEntry x + uptoBulkEntries r
def uptoBulkEntry {H : Type} : Lit × DataW H → Nat
  | (.string bytes, d) => bytes.length + uptoBulk d + 1
  | (_, d) => uptoBulk d + 1
 end
def uptoSmall : (H : Type) → List (DataW H) → Bool := fun _ ds => decide (uptoBulkAll ds ≤ 1048576)
def OpenSpec.upto (s : _root_.Go.ChangeSpec) : _root_.Go.OpenSpec := { _root_.Go.OpenSpec.ofChange s with cond := some uptoSmall }

/-- 'usufructlaw07.McrunRuns', WHERE WHAT IT READS IS OF BULK AT MOST 1048576: true; the input reads as it did. -/
def mcrunRunsUptoRow : OpenClaim := { program := "ytkflggjdlflndaagreat", sum := "75917daaf2aa96cd304fc980f646afd142f59d1fbcd078c115f84545c21304c9", func := "usufruct/usufructlaw07.McrunRuns", spec := "mcrunRuns", unfollowed := true, recurses := true, apart := false, narrowed := true }
def McrunRunsUptoSaid : Prop := mcrunRunsUptoRow.holds Tryz.pinned (OpenSpec.upto mcrunRunsSpec)

/-- 'usufructlaw07.McrunSteps', WHERE WHAT IT READS IS OF BULK AT MOST 1048576: true; the input reads as it did. -/
def mcrunStepsUptoRow : OpenClaim := { program := "ytkflggjdlflndaagreat", sum := "75917daaf2aa96cd304fc980f646afd142f59d1fbcd078c115f84545c21304c9", func := "usufruct/usufructlaw07.McrunSteps", spec := "mcrunSteps", unfollowed := true, recurses := true, apart := false, narrowed := true }
def McrunStepsUptoSaid : Prop := mcrunStepsUptoRow.holds Tryz.pinned (OpenSpec.upto mcrunStepsSpec)

/-- 'usufructlaw07.McrunMore', WHERE WHAT IT READS IS OF BULK AT MOST 1048576: true; the input reads as it did. -/
def mcrunMoreUptoRow : OpenClaim := { program := "ytkflggjdlflndaagreat", sum := "75917daaf2aa96cd304fc980f646afd142f59d1fbcd078c115f84545c21304c9", func := "usufruct/usufructlaw07.McrunMore", spec := "mcrunMore", unfollowed := true, recurses := true, apart := false, narrowed := true }
def McrunMoreUptoSaid : Prop := mcrunMoreUptoRow.holds Tryz.pinned (OpenSpec.upto mcrunMoreSpec)

/-- 'usufructlaw07.McrunTail', WHERE WHAT IT READS IS OF BULK AT MOST 1048576: true; the input reads as it did. -/
def mcrunTailUptoRow : OpenClaim := { program := "ytkflggjdlflndaagreat", sum := "75917daaf2aa96cd304fc980f646afd142f59d1fbcd078c115f84545c21304c9", func := "usufruct/usufructlaw07.McrunTail", spec := "mcrunTail", unfollowed := true, recurses := true, apart := false, narrowed := true }
def McrunTailUptoSaid : Prop := mcrunTailUptoRow.holds Tryz.pinned (OpenSpec.upto mcrunTailSpec)

end Rows
end Go.Proofs.YtkflggjdlflndaaGreat
