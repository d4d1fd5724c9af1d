/-
  DERIVED. GIVEN WITH THE SEED: THE CARDS: each row of YtemhfaknmagebaaDoorRows.lean that lists a variable, with what it lists TIED to the program's text (the seventh form; the later family's looks); each row that meets fmt, with fmt's text TOLD by the authors' own Lean function (tested against real Go, not proved from fmt's source: count such statements apart). THE CARD IS WHAT COUNTS. Prove the row's statement (the work); the ties are given (YtemhfaknmagebaaDoorTie.lean); close each card by the builder's one call (the guide's Derived/Test/ToyasCard.lean, 'card_holds'). Laid BY PROGRAM, IN A SANDBOX (cutbox-door.mjs). By AI agents, Wed Nov 11 2026. No macro, syntax, notation, axiom, sorry.
-/
import Derived.Test.YtemhfaknmagebaaDoorRows
import GoSem.ClaimSeven
namespace Go.Proofs.YtemhfaknmagebaaDoor
namespace Rows

/-- THE TIED CARD OF 'palimpsestlaw22.CostTexts'. -/
def costTextsCard : Claim7 := { stood := { row := costTextsRow, standIns := [], harness := (true, "00ff2d65b9e3a249a8f4bbb029f91284c6d96b83098891c6a13b01c59d61d0c0"), looks := false }, kinds := [], alts := [], laidByText := true, laidKinds := [.data, .data, .data], laidTests := true, laidLooks := .later }
def CostTextsCardSaid : Prop := Claim7.holds Tryd.pinned (.plain (OpenSpec.ofChange costTextsSpec)) costTextsCard

/-- THE TIED CARD OF 'palimpsestlaw22.CostOrder'. -/
def costOrderCard : Claim7 := { stood := { row := costOrderRow, standIns := [], harness := (true, "00ff2d65b9e3a249a8f4bbb029f91284c6d96b83098891c6a13b01c59d61d0c0"), looks := false }, kinds := [], alts := [], laidByText := true, laidKinds := [.data, .data, .data], laidTests := true, laidLooks := .later }
def CostOrderCardSaid : Prop := Claim7.holds Tryd.pinned (.plain (OpenSpec.ofChange costOrderSpec)) costOrderCard

/-- THE TIED CARD OF 'palimpsestlaw22.CostParts'. -/
def costPartsCard : Claim7 := { stood := { row := costPartsRow, standIns := [], harness := (true, "00ff2d65b9e3a249a8f4bbb029f91284c6d96b83098891c6a13b01c59d61d0c0"), looks := false }, kinds := [], alts := [], laidByText := true, laidKinds := [.data, .data, .data], laidTests := true, laidLooks := .later }
def CostPartsCardSaid : Prop := Claim7.holds Tryd.pinned (.plain (OpenSpec.ofChange costPartsSpec)) costPartsCard

/-- THE SECOND FORM's CARD OF 'palimpsestlaw22.CostTexts'. -/
def costTextsUptoCard : Claim7 := { stood := { row := costTextsUptoRow, standIns := [], harness := (true, "00ff2d65b9e3a249a8f4bbb029f91284c6d96b83098891c6a13b01c59d61d0c0"), looks := false }, kinds := [], alts := [], laidByText := true, laidKinds := [.data, .data, .data], laidTests := true, laidLooks := .later }
def CostTextsUptoCardSaid : Prop := Claim7.holds Tryd.pinned (.plain (OpenSpec.upto costTextsSpec)) costTextsUptoCard

/-- THE SECOND FORM's CARD OF 'palimpsestlaw22.CostOrder'. -/
def costOrderUptoCard : Claim7 := { stood := { row := costOrderUptoRow, standIns := [], harness := (true, "00ff2d65b9e3a249a8f4bbb029f91284c6d96b83098891c6a13b01c59d61d0c0"), looks := false }, kinds := [], alts := [], laidByText := true, laidKinds := [.data, .data, .data], laidTests := true, laidLooks := .later }
def CostOrderUptoCardSaid : Prop := Claim7.holds Tryd.pinned (.plain (OpenSpec.upto costOrderSpec)) costOrderUptoCard

/-- THE SECOND FORM's CARD OF 'palimpsestlaw22.CostParts'. -/
def costPartsUptoCard : Claim7 := { stood := { row := costPartsUptoRow, standIns := [], harness := (true, "00ff2d65b9e3a249a8f4bbb029f91284c6d96b83098891c6a13b01c59d61d0c0"), looks := false }, kinds := [], alts := [], laidByText := true, laidKinds := [.data, .data, .data], laidTests := true, laidLooks := .later }
def CostPartsUptoCardSaid : Prop := Claim7.holds Tryd.pinned (.plain (OpenSpec.upto costPartsSpec)) costPartsUptoCard
end Rows
end Go.Proofs.YtemhfaknmagebaaDoor
