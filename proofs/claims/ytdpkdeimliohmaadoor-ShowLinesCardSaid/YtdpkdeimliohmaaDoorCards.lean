/-
  DERIVED. GIVEN WITH THE SEED: THE CARDS: each row of YtdpkdeimliohmaaDoorRows.lean that lists a variable, with what it lists TIED to the program's text (the seventh form; the later family's looks); each row that meets fmt, with fmt's text TOLD by the authors' own Lean function (tested against real Go, not proved from fmt's source: count such statements apart). THE CARD IS WHAT COUNTS. Prove the row's statement (the work); the ties are given (YtdpkdeimliohmaaDoorTie.lean); close each card by the builder's one call (the guide's Derived/Test/ToyasCard.lean, 'card_holds'). Laid BY PROGRAM, IN A SANDBOX (cutbox-door.mjs). By AI agents, Wed Nov 11 2026. No macro, syntax, notation, axiom, sorry.
-/
import Derived.Test.YtdpkdeimliohmaaDoorRows
import GoSem.ClaimSeven
namespace Go.Proofs.YtdpkdeimliohmaaDoor
namespace Rows

/-- THE TIED CARD OF 'usufructlaw03.ShowParts'. -/
def showPartsCard : Claim7 := { stood := { row := showPartsRow, standIns := [], harness := (true, "b09d66c4090c8abd916ee92e661bac9a8a39a5f1efc7f74c79fe80fdbce4a511"), looks := false }, kinds := [], alts := [], laidByText := true, laidKinds := [.data, .data, .data], laidTests := true, laidLooks := .later }
def ShowPartsCardSaid : Prop := Claim7.holds Tryd.pinned (.plain (OpenSpec.ofChange showPartsSpec)) showPartsCard

/-- THE TIED CARD OF 'usufructlaw03.ShowLines'. -/
def showLinesCard : Claim7 := { stood := { row := showLinesRow, standIns := [], harness := (true, "b09d66c4090c8abd916ee92e661bac9a8a39a5f1efc7f74c79fe80fdbce4a511"), looks := false }, kinds := [], alts := [], laidByText := true, laidKinds := [.data, .data, .data], laidTests := true, laidLooks := .later }
def ShowLinesCardSaid : Prop := Claim7.holds Tryd.pinned (.plain (OpenSpec.ofChange showLinesSpec)) showLinesCard

/-- THE TIED CARD OF 'usufructlaw03.ShowProgs'. -/
def showProgsCard : Claim7 := { stood := { row := showProgsRow, standIns := [], harness := (true, "b09d66c4090c8abd916ee92e661bac9a8a39a5f1efc7f74c79fe80fdbce4a511"), looks := false }, kinds := [], alts := [], laidByText := true, laidKinds := [.data, .data, .data], laidTests := true, laidLooks := .later }
def ShowProgsCardSaid : Prop := Claim7.holds Tryd.pinned (.plain (OpenSpec.ofChange showProgsSpec)) showProgsCard

/-- THE SECOND FORM's CARD OF 'usufructlaw03.ShowParts'. -/
def showPartsUptoCard : Claim7 := { stood := { row := showPartsUptoRow, standIns := [], harness := (true, "b09d66c4090c8abd916ee92e661bac9a8a39a5f1efc7f74c79fe80fdbce4a511"), looks := false }, kinds := [], alts := [], laidByText := true, laidKinds := [.data, .data, .data], laidTests := true, laidLooks := .later }
def ShowPartsUptoCardSaid : Prop := Claim7.holds Tryd.pinned (.plain (OpenSpec.upto showPartsSpec)) showPartsUptoCard

/-- THE SECOND FORM's CARD OF 'usufructlaw03.ShowLines'. -/
def showLinesUptoCard : Claim7 := { stood := { row := showLinesUptoRow, standIns := [], harness := (true, "b09d66c4090c8abd916ee92e661bac9a8a39a5f1efc7f74c79fe80fdbce4a511"), looks := false }, kinds := [], alts := [], laidByText := true, laidKinds := [.data, .data, .data], laidTests := true, laidLooks := .later }
def ShowLinesUptoCardSaid : Prop := Claim7.holds Tryd.pinned (.plain (OpenSpec.upto showLinesSpec)) showLinesUptoCard

/-- THE SECOND FORM's CARD OF 'usufructlaw03.ShowProgs'. -/
def showProgsUptoCard : Claim7 := { stood := { row := showProgsUptoRow, standIns := [], harness := (true, "b09d66c4090c8abd916ee92e661bac9a8a39a5f1efc7f74c79fe80fdbce4a511"), looks := false }, kinds := [], alts := [], laidByText := true, laidKinds := [.data, .data, .data], laidTests := true, laidLooks := .later }
def ShowProgsUptoCardSaid : Prop := Claim7.holds Tryd.pinned (.plain (OpenSpec.upto showProgsSpec)) showProgsUptoCard
end Rows
end Go.Proofs.YtdpkdeimliohmaaDoor
