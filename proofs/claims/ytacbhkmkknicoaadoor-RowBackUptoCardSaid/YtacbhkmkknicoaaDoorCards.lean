/-
  DERIVED. GIVEN WITH THE SEED: THE CARDS: each row of YtacbhkmkknicoaaDoorRows.lean that lists a variable, with what it lists TIED to the program's text (the seventh form; the later family's looks); each row that meets fmt, with fmt's text TOLD by the authors' own Lean function (tested against real Go, not proved from fmt's source: count such statements apart). THE CARD IS WHAT COUNTS. Prove the row's statement (the work); the ties are given (YtacbhkmkknicoaaDoorTie.lean); close each card by the builder's one call (the guide's Derived/Test/ToyasCard.lean, 'card_holds'). Laid BY PROGRAM, IN A SANDBOX (cutbox-door.mjs). By AI agents, Wed Nov 11 2026. No macro, syntax, notation, axiom, sorry.
-/
import Derived.Test.YtacbhkmkknicoaaDoorRows
import GoSem.ClaimSeven
namespace Go.Proofs.YtacbhkmkknicoaaDoor
namespace Rows

/-- THE TIED CARD OF 'palimpsestlaw17.RowWidths'. -/
def rowWidthsCard : Claim7 := { stood := { row := rowWidthsRow, standIns := [], harness := (true, "2010abdf4967004b7d610b85d682b11b0c8a2f1a38199600857a81ecc9ee11ac"), looks := false }, kinds := [], alts := [], laidByText := true, laidKinds := [.data, .data, .data, .data, .pinned], laidTests := true, laidLooks := .later }
def RowWidthsCardSaid : Prop := Claim7.holds Tryd.pinned (.plain (OpenSpec.ofChange rowWidthsSpec)) rowWidthsCard

/-- THE TIED CARD OF 'palimpsestlaw17.RowChecks'. -/
def rowChecksCard : Claim7 := { stood := { row := rowChecksRow, standIns := [], harness := (true, "2010abdf4967004b7d610b85d682b11b0c8a2f1a38199600857a81ecc9ee11ac"), looks := false }, kinds := [], alts := [], laidByText := true, laidKinds := [.data, .data, .data, .data, .pinned], laidTests := true, laidLooks := .later }
def RowChecksCardSaid : Prop := Claim7.holds Tryd.pinned (.plain (OpenSpec.ofChange rowChecksSpec)) rowChecksCard

/-- THE TIED CARD OF 'palimpsestlaw17.RowSchemas'. -/
def rowSchemasCard : Claim7 := { stood := { row := rowSchemasRow, standIns := [], harness := (true, "2010abdf4967004b7d610b85d682b11b0c8a2f1a38199600857a81ecc9ee11ac"), looks := false }, kinds := [], alts := [], laidByText := true, laidKinds := [.data, .data, .data, .data, .pinned], laidTests := true, laidLooks := .later }
def RowSchemasCardSaid : Prop := Claim7.holds Tryd.pinned (.plain (OpenSpec.ofChange rowSchemasSpec)) rowSchemasCard

/-- THE TIED CARD OF 'palimpsestlaw17.RowLent'. -/
def rowLentCard : Claim7 := { stood := { row := rowLentRow, standIns := [], harness := (true, "2010abdf4967004b7d610b85d682b11b0c8a2f1a38199600857a81ecc9ee11ac"), looks := false }, kinds := [], alts := [], laidByText := true, laidKinds := [.data, .data, .data, .data, .pinned], laidTests := true, laidLooks := .later }
def RowLentCardSaid : Prop := Claim7.holds Tryd.pinned (.plain (OpenSpec.ofChange rowLentSpec)) rowLentCard

/-- THE TIED CARD OF 'palimpsestlaw17.RowBack'. -/
def rowBackCard : Claim7 := { stood := { row := rowBackRow, standIns := [], harness := (true, "2010abdf4967004b7d610b85d682b11b0c8a2f1a38199600857a81ecc9ee11ac"), looks := false }, kinds := [], alts := [], laidByText := true, laidKinds := [.data, .data, .data, .data, .pinned], laidTests := true, laidLooks := .later }
def RowBackCardSaid : Prop := Claim7.holds Tryd.pinned (.plain (OpenSpec.ofChange rowBackSpec)) rowBackCard

/-- THE SECOND FORM's CARD OF 'palimpsestlaw17.RowWidths'. -/
def rowWidthsUptoCard : Claim7 := { stood := { row := rowWidthsUptoRow, standIns := [], harness := (true, "2010abdf4967004b7d610b85d682b11b0c8a2f1a38199600857a81ecc9ee11ac"), looks := false }, kinds := [], alts := [], laidByText := true, laidKinds := [.data, .data, .data, .data, .pinned], laidTests := true, laidLooks := .later }
def RowWidthsUptoCardSaid : Prop := Claim7.holds Tryd.pinned (.plain (OpenSpec.upto rowWidthsSpec)) rowWidthsUptoCard

/-- THE SECOND FORM's CARD OF 'palimpsestlaw17.RowChecks'. -/
def rowChecksUptoCard : Claim7 := { stood := { row := rowChecksUptoRow, standIns := [], harness := (true, "2010abdf4967004b7d610b85d682b11b0c8a2f1a38199600857a81ecc9ee11ac"), looks := false }, kinds := [], alts := [], laidByText := true, laidKinds := [.data, .data, .data, .data, .pinned], laidTests := true, laidLooks := .later }
def RowChecksUptoCardSaid : Prop := Claim7.holds Tryd.pinned (.plain (OpenSpec.upto rowChecksSpec)) rowChecksUptoCard

/-- THE SECOND FORM's CARD OF 'palimpsestlaw17.RowSchemas'. -/
def rowSchemasUptoCard : Claim7 := { stood := { row := rowSchemasUptoRow, standIns := [], harness := (true, "2010abdf4967004b7d610b85d682b11b0c8a2f1a38199600857a81ecc9ee11ac"), looks := false }, kinds := [], alts := [], laidByText := true, laidKinds := [.data, .data, .data, .data, .pinned], laidTests := true, laidLooks := .later }
def RowSchemasUptoCardSaid : Prop := Claim7.holds Tryd.pinned (.plain (OpenSpec.upto rowSchemasSpec)) rowSchemasUptoCard

/-- THE SECOND FORM's CARD OF 'palimpsestlaw17.RowLent'. -/
def rowLentUptoCard : Claim7 := { stood := { row := rowLentUptoRow, standIns := [], harness := (true, "2010abdf4967004b7d610b85d682b11b0c8a2f1a38199600857a81ecc9ee11ac"), looks := false }, kinds := [], alts := [], laidByText := true, laidKinds := [.data, .data, .data, .data, .pinned], laidTests := true, laidLooks := .later }
def RowLentUptoCardSaid : Prop := Claim7.holds Tryd.pinned (.plain (OpenSpec.upto rowLentSpec)) rowLentUptoCard

/-- THE SECOND FORM's CARD OF 'palimpsestlaw17.RowBack'. -/
def rowBackUptoCard : Claim7 := { stood := { row := rowBackUptoRow, standIns := [], harness := (true, "2010abdf4967004b7d610b85d682b11b0c8a2f1a38199600857a81ecc9ee11ac"), looks := false }, kinds := [], alts := [], laidByText := true, laidKinds := [.data, .data, .data, .data, .pinned], laidTests := true, laidLooks := .later }
def RowBackUptoCardSaid : Prop := Claim7.holds Tryd.pinned (.plain (OpenSpec.upto rowBackSpec)) rowBackUptoCard
end Rows
end Go.Proofs.YtacbhkmkknicoaaDoor
