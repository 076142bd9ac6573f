/-
  DERIVED. GIVEN WITH THE SEED: THE CARDS: each row of YtfdocckaobmgeaaDoorRows.lean that lists a variable, with what it lists TIED to the program's text (the seventh form; the later family's looks); each row that meets fmt, with fmt's text TOLD by the authors' own Lean function (tested against real Go, not proved from fmt's source: count such statements apart). THE CARD IS WHAT COUNTS. Prove the row's statement (the work); the ties are given (YtfdocckaobmgeaaDoorTie.lean); close each card by the builder's one call (the guide's Derived/Test/ToyasCard.lean, 'card_holds'). Laid BY PROGRAM, IN A SANDBOX (cutbox-door.mjs). By AI agents, Wed Nov 11 2026. No macro, syntax, notation, axiom, sorry.
-/
import Derived.Test.YtfdocckaobmgeaaDoorRows
import GoSem.ClaimSeven
namespace Go.Proofs.YtfdocckaobmgeaaDoor
namespace Rows

/-- THE TIED CARD OF 'dictumlaw05.BitsTexts'. -/
def bitsTextsCard : Claim7 := { stood := { row := bitsTextsRow, standIns := [], harness := (true, "f3904a414ad50f49bf946644d9fe8cfca94e1cf26dd7999ec026883978485d5d"), looks := true }, kinds := [], alts := [], laidByText := true, laidKinds := [.data, .data, .data, .data, .sentinel, .sentinel, .pinned], laidTests := true, laidLooks := .later }
def BitsTextsCardSaid : Prop := Claim7.holds Tryd.pinned (.plain (OpenSpec.ofChange bitsTextsSpec)) bitsTextsCard

/-- THE TIED CARD OF 'dictumlaw05.BitsJoins'. -/
def bitsJoinsCard : Claim7 := { stood := { row := bitsJoinsRow, standIns := [], harness := (true, "f3904a414ad50f49bf946644d9fe8cfca94e1cf26dd7999ec026883978485d5d"), looks := true }, kinds := [], alts := [], laidByText := true, laidKinds := [.data, .data, .data, .data, .sentinel, .sentinel, .pinned], laidTests := true, laidLooks := .later }
def BitsJoinsCardSaid : Prop := Claim7.holds Tryd.pinned (.plain (OpenSpec.ofChange bitsJoinsSpec)) bitsJoinsCard

/-- THE TIED CARD OF 'dictumlaw05.BitsAlgebra'. -/
def bitsAlgebraCard : Claim7 := { stood := { row := bitsAlgebraRow, standIns := [], harness := (true, "f3904a414ad50f49bf946644d9fe8cfca94e1cf26dd7999ec026883978485d5d"), looks := true }, kinds := [], alts := [], laidByText := true, laidKinds := [.data, .data, .data, .data, .sentinel, .sentinel, .pinned], laidTests := true, laidLooks := .later }
def BitsAlgebraCardSaid : Prop := Claim7.holds Tryd.pinned (.plain (OpenSpec.ofChange bitsAlgebraSpec)) bitsAlgebraCard

/-- THE TIED CARD OF 'dictumlaw05.BitsAll'. -/
def bitsAllCard : Claim7 := { stood := { row := bitsAllRow, standIns := [], harness := (true, "f3904a414ad50f49bf946644d9fe8cfca94e1cf26dd7999ec026883978485d5d"), looks := true }, kinds := [], alts := [], laidByText := true, laidKinds := [.data, .data, .data, .data, .sentinel, .sentinel, .pinned], laidTests := true, laidLooks := .later }
def BitsAllCardSaid : Prop := Claim7.holds Tryd.pinned (.plain (OpenSpec.ofChange bitsAllSpec)) bitsAllCard

/-- THE TIED CARD OF 'dictumlaw05.BitsMakes'. -/
def bitsMakesCard : Claim7 := { stood := { row := bitsMakesRow, standIns := [], harness := (true, "f3904a414ad50f49bf946644d9fe8cfca94e1cf26dd7999ec026883978485d5d"), looks := true }, kinds := [], alts := [], laidByText := true, laidKinds := [.data, .data, .data, .data, .sentinel, .sentinel, .pinned], laidTests := true, laidLooks := .later }
def BitsMakesCardSaid : Prop := Claim7.holds Tryd.pinned (.plain (OpenSpec.ofChange bitsMakesSpec)) bitsMakesCard

/-- THE SECOND FORM's CARD OF 'dictumlaw05.BitsTexts'. -/
def bitsTextsUptoCard : Claim7 := { stood := { row := bitsTextsUptoRow, standIns := [], harness := (true, "f3904a414ad50f49bf946644d9fe8cfca94e1cf26dd7999ec026883978485d5d"), looks := true }, kinds := [], alts := [], laidByText := true, laidKinds := [.data, .data, .data, .data, .sentinel, .sentinel, .pinned], laidTests := true, laidLooks := .later }
def BitsTextsUptoCardSaid : Prop := Claim7.holds Tryd.pinned (.plain (OpenSpec.upto bitsTextsSpec)) bitsTextsUptoCard

/-- THE SECOND FORM's CARD OF 'dictumlaw05.BitsJoins'. -/
def bitsJoinsUptoCard : Claim7 := { stood := { row := bitsJoinsUptoRow, standIns := [], harness := (true, "f3904a414ad50f49bf946644d9fe8cfca94e1cf26dd7999ec026883978485d5d"), looks := true }, kinds := [], alts := [], laidByText := true, laidKinds := [.data, .data, .data, .data, .sentinel, .sentinel, .pinned], laidTests := true, laidLooks := .later }
def BitsJoinsUptoCardSaid : Prop := Claim7.holds Tryd.pinned (.plain (OpenSpec.upto bitsJoinsSpec)) bitsJoinsUptoCard

/-- THE SECOND FORM's CARD OF 'dictumlaw05.BitsAlgebra'. -/
def bitsAlgebraUptoCard : Claim7 := { stood := { row := bitsAlgebraUptoRow, standIns := [], harness := (true, "f3904a414ad50f49bf946644d9fe8cfca94e1cf26dd7999ec026883978485d5d"), looks := true }, kinds := [], alts := [], laidByText := true, laidKinds := [.data, .data, .data, .data, .sentinel, .sentinel, .pinned], laidTests := true, laidLooks := .later }
def BitsAlgebraUptoCardSaid : Prop := Claim7.holds Tryd.pinned (.plain (OpenSpec.upto bitsAlgebraSpec)) bitsAlgebraUptoCard

/-- THE SECOND FORM's CARD OF 'dictumlaw05.BitsAll'. -/
def bitsAllUptoCard : Claim7 := { stood := { row := bitsAllUptoRow, standIns := [], harness := (true, "f3904a414ad50f49bf946644d9fe8cfca94e1cf26dd7999ec026883978485d5d"), looks := true }, kinds := [], alts := [], laidByText := true, laidKinds := [.data, .data, .data, .data, .sentinel, .sentinel, .pinned], laidTests := true, laidLooks := .later }
def BitsAllUptoCardSaid : Prop := Claim7.holds Tryd.pinned (.plain (OpenSpec.upto bitsAllSpec)) bitsAllUptoCard

/-- THE SECOND FORM's CARD OF 'dictumlaw05.BitsMakes'. -/
def bitsMakesUptoCard : Claim7 := { stood := { row := bitsMakesUptoRow, standIns := [], harness := (true, "f3904a414ad50f49bf946644d9fe8cfca94e1cf26dd7999ec026883978485d5d"), looks := true }, kinds := [], alts := [], laidByText := true, laidKinds := [.data, .data, .data, .data, .sentinel, .sentinel, .pinned], laidTests := true, laidLooks := .later }
def BitsMakesUptoCardSaid : Prop := Claim7.holds Tryd.pinned (.plain (OpenSpec.upto bitsMakesSpec)) bitsMakesUptoCard
end Rows
end Go.Proofs.YtfdocckaobmgeaaDoor
