/-
  DERIVED. GIVEN WITH THE SEED: THE CARDS: each row of YtefdkpfndjlpgaaDoorRows.lean that lists a variable, with what it lists TIED to the program's text (the seventh form; the later family's looks); each row that meets fmt, with fmt's text TOLD by the authors' own Lean function (tested against real Go, not proved from fmt's source: count such statements apart). THE CARD IS WHAT COUNTS. Prove the row's statement (the work); the ties are given (YtefdkpfndjlpgaaDoorTie.lean); close each card by the builder's one call (the guide's Derived/Test/ToyasCard.lean, 'card_holds'). Laid BY PROGRAM, IN A SANDBOX (cutbox-door.mjs). By AI agents, Wed Nov 11 2026. No macro, syntax, notation, axiom, sorry.
-/
import Derived.Test.YtefdkpfndjlpgaaDoorRows
import GoSem.ClaimSeven
namespace Go.Proofs.YtefdkpfndjlpgaaDoor
namespace Rows

/-- THE TIED CARD OF 'palimpsestlaw16.ValueDivides'. -/
def valueDividesCard : Claim7 := { stood := { row := valueDividesRow, standIns := [], harness := (true, "d566e9fe4267f0dff6184f9538260dd4ddda1c4b0e9db9cd34b219ba335ec1a0"), looks := false }, kinds := [], alts := [], laidByText := true, laidKinds := [.data, .data, .data, .data, .pinned], laidTests := true, laidLooks := .later }
def ValueDividesCardSaid : Prop := Claim7.holds Tryd.pinned (.plain (OpenSpec.ofChange valueDividesSpec)) valueDividesCard

/-- THE TIED CARD OF 'palimpsestlaw16.ValueMath'. -/
def valueMathCard : Claim7 := { stood := { row := valueMathRow, standIns := [], harness := (true, "d566e9fe4267f0dff6184f9538260dd4ddda1c4b0e9db9cd34b219ba335ec1a0"), looks := false }, kinds := [], alts := [], laidByText := true, laidKinds := [.data, .data, .data, .data, .pinned], laidTests := true, laidLooks := .later }
def ValueMathCardSaid : Prop := Claim7.holds Tryd.pinned (.plain (OpenSpec.ofChange valueMathSpec)) valueMathCard

/-- THE TIED CARD OF 'palimpsestlaw16.ValueLogic'. -/
def valueLogicCard : Claim7 := { stood := { row := valueLogicRow, standIns := [], harness := (true, "d566e9fe4267f0dff6184f9538260dd4ddda1c4b0e9db9cd34b219ba335ec1a0"), looks := false }, kinds := [], alts := [], laidByText := true, laidKinds := [.data, .data, .data, .data, .pinned], laidTests := true, laidLooks := .later }
def ValueLogicCardSaid : Prop := Claim7.holds Tryd.pinned (.plain (OpenSpec.ofChange valueLogicSpec)) valueLogicCard

/-- THE TIED CARD OF 'palimpsestlaw16.ValueSums'. -/
def valueSumsCard : Claim7 := { stood := { row := valueSumsRow, standIns := [], harness := (true, "d566e9fe4267f0dff6184f9538260dd4ddda1c4b0e9db9cd34b219ba335ec1a0"), looks := false }, kinds := [], alts := [], laidByText := true, laidKinds := [.data, .data, .data, .data, .pinned], laidTests := true, laidLooks := .later }
def ValueSumsCardSaid : Prop := Claim7.holds Tryd.pinned (.plain (OpenSpec.ofChange valueSumsSpec)) valueSumsCard

/-- THE TIED CARD OF 'palimpsestlaw16.ValueTexts'. -/
def valueTextsCard : Claim7 := { stood := { row := valueTextsRow, standIns := [], harness := (true, "d566e9fe4267f0dff6184f9538260dd4ddda1c4b0e9db9cd34b219ba335ec1a0"), looks := false }, kinds := [], alts := [], laidByText := true, laidKinds := [.data, .data, .data, .data, .pinned], laidTests := true, laidLooks := .later }
def ValueTextsCardSaid : Prop := Claim7.holds Tryd.pinned (.plain (OpenSpec.ofChange valueTextsSpec)) valueTextsCard

/-- THE TIED CARD OF 'palimpsestlaw16.ValueTruths'. -/
def valueTruthsCard : Claim7 := { stood := { row := valueTruthsRow, standIns := [], harness := (true, "d566e9fe4267f0dff6184f9538260dd4ddda1c4b0e9db9cd34b219ba335ec1a0"), looks := false }, kinds := [], alts := [], laidByText := true, laidKinds := [.data, .data, .data, .data, .pinned], laidTests := true, laidLooks := .later }
def ValueTruthsCardSaid : Prop := Claim7.holds Tryd.pinned (.plain (OpenSpec.ofChange valueTruthsSpec)) valueTruthsCard

/-- THE TIED CARD OF 'palimpsestlaw16.ValueOrder'. -/
def valueOrderCard : Claim7 := { stood := { row := valueOrderRow, standIns := [], harness := (true, "d566e9fe4267f0dff6184f9538260dd4ddda1c4b0e9db9cd34b219ba335ec1a0"), looks := false }, kinds := [], alts := [], laidByText := true, laidKinds := [.data, .data, .data, .data, .pinned], laidTests := true, laidLooks := .later }
def ValueOrderCardSaid : Prop := Claim7.holds Tryd.pinned (.plain (OpenSpec.ofChange valueOrderSpec)) valueOrderCard

/-- THE SECOND FORM's CARD OF 'palimpsestlaw16.ValueDivides'. -/
def valueDividesUptoCard : Claim7 := { stood := { row := valueDividesUptoRow, standIns := [], harness := (true, "d566e9fe4267f0dff6184f9538260dd4ddda1c4b0e9db9cd34b219ba335ec1a0"), looks := false }, kinds := [], alts := [], laidByText := true, laidKinds := [.data, .data, .data, .data, .pinned], laidTests := true, laidLooks := .later }
def ValueDividesUptoCardSaid : Prop := Claim7.holds Tryd.pinned (.plain (OpenSpec.upto valueDividesSpec)) valueDividesUptoCard

/-- THE SECOND FORM's CARD OF 'palimpsestlaw16.ValueMath'. -/
def valueMathUptoCard : Claim7 := { stood := { row := valueMathUptoRow, standIns := [], harness := (true, "d566e9fe4267f0dff6184f9538260dd4ddda1c4b0e9db9cd34b219ba335ec1a0"), looks := false }, kinds := [], alts := [], laidByText := true, laidKinds := [.data, .data, .data, .data, .pinned], laidTests := true, laidLooks := .later }
def ValueMathUptoCardSaid : Prop := Claim7.holds Tryd.pinned (.plain (OpenSpec.upto valueMathSpec)) valueMathUptoCard

/-- THE SECOND FORM's CARD OF 'palimpsestlaw16.ValueLogic'. -/
def valueLogicUptoCard : Claim7 := { stood := { row := valueLogicUptoRow, standIns := [], harness := (true, "d566e9fe4267f0dff6184f9538260dd4ddda1c4b0e9db9cd34b219ba335ec1a0"), looks := false }, kinds := [], alts := [], laidByText := true, laidKinds := [.data, .data, .data, .data, .pinned], laidTests := true, laidLooks := .later }
def ValueLogicUptoCardSaid : Prop := Claim7.holds Tryd.pinned (.plain (OpenSpec.upto valueLogicSpec)) valueLogicUptoCard

/-- THE SECOND FORM's CARD OF 'palimpsestlaw16.ValueSums'. -/
def valueSumsUptoCard : Claim7 := { stood := { row := valueSumsUptoRow, standIns := [], harness := (true, "d566e9fe4267f0dff6184f9538260dd4ddda1c4b0e9db9cd34b219ba335ec1a0"), looks := false }, kinds := [], alts := [], laidByText := true, laidKinds := [.data, .data, .data, .data, .pinned], laidTests := true, laidLooks := .later }
def ValueSumsUptoCardSaid : Prop := Claim7.holds Tryd.pinned (.plain (OpenSpec.upto valueSumsSpec)) valueSumsUptoCard

/-- THE SECOND FORM's CARD OF 'palimpsestlaw16.ValueTexts'. -/
def valueTextsUptoCard : Claim7 := { stood := { row := valueTextsUptoRow, standIns := [], harness := (true, "d566e9fe4267f0dff6184f9538260dd4ddda1c4b0e9db9cd34b219ba335ec1a0"), looks := false }, kinds := [], alts := [], laidByText := true, laidKinds := [.data, .data, .data, .data, .pinned], laidTests := true, laidLooks := .later }
def ValueTextsUptoCardSaid : Prop := Claim7.holds Tryd.pinned (.plain (OpenSpec.upto valueTextsSpec)) valueTextsUptoCard

/-- THE SECOND FORM's CARD OF 'palimpsestlaw16.ValueTruths'. -/
def valueTruthsUptoCard : Claim7 := { stood := { row := valueTruthsUptoRow, standIns := [], harness := (true, "d566e9fe4267f0dff6184f9538260dd4ddda1c4b0e9db9cd34b219ba335ec1a0"), looks := false }, kinds := [], alts := [], laidByText := true, laidKinds := [.data, .data, .data, .data, .pinned], laidTests := true, laidLooks := .later }
def ValueTruthsUptoCardSaid : Prop := Claim7.holds Tryd.pinned (.plain (OpenSpec.upto valueTruthsSpec)) valueTruthsUptoCard

/-- THE SECOND FORM's CARD OF 'palimpsestlaw16.ValueOrder'. -/
def valueOrderUptoCard : Claim7 := { stood := { row := valueOrderUptoRow, standIns := [], harness := (true, "d566e9fe4267f0dff6184f9538260dd4ddda1c4b0e9db9cd34b219ba335ec1a0"), looks := false }, kinds := [], alts := [], laidByText := true, laidKinds := [.data, .data, .data, .data, .pinned], laidTests := true, laidLooks := .later }
def ValueOrderUptoCardSaid : Prop := Claim7.holds Tryd.pinned (.plain (OpenSpec.upto valueOrderSpec)) valueOrderUptoCard
end Rows
end Go.Proofs.YtefdkpfndjlpgaaDoor
