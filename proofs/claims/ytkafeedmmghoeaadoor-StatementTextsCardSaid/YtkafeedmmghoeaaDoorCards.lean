/-
  DERIVED. GIVEN WITH THE SEED: THE CARDS: each row of YtkafeedmmghoeaaDoorRows.lean that lists a variable, with what it lists TIED to the program's text (the seventh form; the later family's looks); each row that meets fmt, with fmt's text TOLD by the authors' own Lean function (tested against real Go, not proved from fmt's source: count such statements apart). THE CARD IS WHAT COUNTS. Prove the row's statement (the work); the ties are given (YtkafeedmmghoeaaDoorTie.lean); close each card by the builder's one call (the guide's Derived/Test/ToyasCard.lean, 'card_holds'). Laid BY PROGRAM, IN A SANDBOX (cutbox-door.mjs). By AI agents, Wed Nov 11 2026. No macro, syntax, notation, axiom, sorry.
-/
import Derived.Test.YtkafeedmmghoeaaDoorRows
import GoSem.ClaimSeven
namespace Go.Proofs.YtkafeedmmghoeaaDoor
namespace Rows

/-- THE TIED CARD OF 'quittancelaw23.StatementTexts'. -/
def statementTextsCard : Claim7 := { stood := { row := statementTextsRow, standIns := [], harness := (true, "3ea8be7d4954272ffd17771239b16816041ea02c1f8fbcaefdbbfe5f9b02bedc"), looks := false }, kinds := [], alts := [], laidByText := true, laidKinds := [.data, .data, .data], laidTests := true, laidLooks := .later }
def StatementTextsCardSaid : Prop := Claim7.holds Tryd.pinned (.plain (OpenSpec.ofChange statementTextsSpec)) statementTextsCard

/-- THE TIED CARD OF 'quittancelaw23.StatementLines'. -/
def statementLinesCard : Claim7 := { stood := { row := statementLinesRow, standIns := [], harness := (true, "3ea8be7d4954272ffd17771239b16816041ea02c1f8fbcaefdbbfe5f9b02bedc"), looks := false }, kinds := [], alts := [], laidByText := true, laidKinds := [.data, .data, .data], laidTests := true, laidLooks := .later }
def StatementLinesCardSaid : Prop := Claim7.holds Tryd.pinned (.plain (OpenSpec.ofChange statementLinesSpec)) statementLinesCard

/-- THE SECOND FORM's CARD OF 'quittancelaw23.StatementTexts'. -/
def statementTextsUptoCard : Claim7 := { stood := { row := statementTextsUptoRow, standIns := [], harness := (true, "3ea8be7d4954272ffd17771239b16816041ea02c1f8fbcaefdbbfe5f9b02bedc"), looks := false }, kinds := [], alts := [], laidByText := true, laidKinds := [.data, .data, .data], laidTests := true, laidLooks := .later }
def StatementTextsUptoCardSaid : Prop := Claim7.holds Tryd.pinned (.plain (OpenSpec.upto statementTextsSpec)) statementTextsUptoCard

/-- THE SECOND FORM's CARD OF 'quittancelaw23.StatementLines'. -/
def statementLinesUptoCard : Claim7 := { stood := { row := statementLinesUptoRow, standIns := [], harness := (true, "3ea8be7d4954272ffd17771239b16816041ea02c1f8fbcaefdbbfe5f9b02bedc"), looks := false }, kinds := [], alts := [], laidByText := true, laidKinds := [.data, .data, .data], laidTests := true, laidLooks := .later }
def StatementLinesUptoCardSaid : Prop := Claim7.holds Tryd.pinned (.plain (OpenSpec.upto statementLinesSpec)) statementLinesUptoCard
end Rows
end Go.Proofs.YtkafeedmmghoeaaDoor
