/-
  DERIVED. GIVEN WITH THE SEED: THE CARDS: each row of YtpmkkhkphddfeaaDoorRows.lean that lists a variable, with what it lists TIED to the program's text (the seventh form; the later family's looks); each row that meets fmt, with fmt's text TOLD by the authors' own Lean function (tested against real Go, not proved from fmt's source: count such statements apart). THE CARD IS WHAT COUNTS. Prove the row's statement (the work); the ties are given (YtpmkkhkphddfeaaDoorTie.lean); close each card by the builder's one call (the guide's Derived/Test/ToyasCard.lean, 'card_holds'). Laid BY PROGRAM, IN A SANDBOX (cutbox-door.mjs). By AI agents, Wed Nov 11 2026. No macro, syntax, notation, axiom, sorry.
-/
import Derived.Test.YtpmkkhkphddfeaaDoorRows
import GoSem.ClaimSeven
namespace Go.Proofs.YtpmkkhkphddfeaaDoor
namespace Rows

/-- THE TIED CARD OF 'dictumlaw04.SyntaxNobody'. -/
def syntaxNobodyCard : Claim7 := { stood := { row := syntaxNobodyRow, standIns := [], harness := (true, "e579bcd8b41e8fa6724b4f8fbd1e9aa7f5704b5778cf2dd342652538cf85ba36"), looks := true }, kinds := [], alts := [], laidByText := true, laidKinds := [.data, .data, .data, .data, .sentinel, .sentinel, .pinned], laidTests := true, laidLooks := .later }
def SyntaxNobodyCardSaid : Prop := Claim7.holds Tryd.pinned (.plain (OpenSpec.ofChange syntaxNobodySpec)) syntaxNobodyCard

/-- THE SECOND FORM's CARD OF 'dictumlaw04.SyntaxNobody'. -/
def syntaxNobodyUptoCard : Claim7 := { stood := { row := syntaxNobodyUptoRow, standIns := [], harness := (true, "e579bcd8b41e8fa6724b4f8fbd1e9aa7f5704b5778cf2dd342652538cf85ba36"), looks := true }, kinds := [], alts := [], laidByText := true, laidKinds := [.data, .data, .data, .data, .sentinel, .sentinel, .pinned], laidTests := true, laidLooks := .later }
def SyntaxNobodyUptoCardSaid : Prop := Claim7.holds Tryd.pinned (.plain (OpenSpec.upto syntaxNobodySpec)) syntaxNobodyUptoCard
end Rows
end Go.Proofs.YtpmkkhkphddfeaaDoor
