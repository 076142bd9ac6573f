/-
  DERIVED. GIVEN WITH THE SEED: THE CARDS: each row of YtjhmhdedonibbaaDoorRows.lean that lists a variable, with what it lists TIED to the program's text (the seventh form; the later family's looks); each row that meets fmt, with fmt's text TOLD by the authors' own Lean function (tested against real Go, not proved from fmt's source: count such statements apart). THE CARD IS WHAT COUNTS. Prove the row's statement (the work); the ties are given (YtjhmhdedonibbaaDoorTie.lean); close each card by the builder's one call (the guide's Derived/Test/ToyasCard.lean, 'card_holds'). Laid BY PROGRAM, IN A SANDBOX (cutbox-door.mjs). By AI agents, Wed Nov 11 2026. No macro, syntax, notation, axiom, sorry.
-/
import Derived.Test.YtjhmhdedonibbaaDoorRows
import GoSem.ClaimSeven
namespace Go.Proofs.YtjhmhdedonibbaaDoor
namespace Rows

/-- THE TIED CARD OF 'dictumlaw02.TokenSpots'. -/
def tokenSpotsCard : Claim7 := { stood := { row := tokenSpotsRow, standIns := [], harness := (true, "cf108de5f592cd882741201d77e7d83aeaf709b52d179efc3d8d6a30088d3971"), looks := true }, kinds := [], alts := [], laidByText := true, laidKinds := [.data, .data, .data, .data, .sentinel, .sentinel, .pinned], laidTests := true, laidLooks := .later }
def TokenSpotsCardSaid : Prop := Claim7.holds Tryd.pinned (.plain (OpenSpec.ofChange tokenSpotsSpec)) tokenSpotsCard

/-- THE TIED CARD OF 'dictumlaw02.TokenScans'. -/
def tokenScansCard : Claim7 := { stood := { row := tokenScansRow, standIns := [], harness := (true, "cf108de5f592cd882741201d77e7d83aeaf709b52d179efc3d8d6a30088d3971"), looks := true }, kinds := [], alts := [], laidByText := true, laidKinds := [.data, .data, .data, .data, .sentinel, .sentinel, .pinned], laidTests := true, laidLooks := .later }
def TokenScansCardSaid : Prop := Claim7.holds Tryd.pinned (.plain (OpenSpec.ofChange tokenScansSpec)) tokenScansCard

/-- THE TIED CARD OF 'dictumlaw02.TokenWrites'. -/
def tokenWritesCard : Claim7 := { stood := { row := tokenWritesRow, standIns := [], harness := (true, "cf108de5f592cd882741201d77e7d83aeaf709b52d179efc3d8d6a30088d3971"), looks := true }, kinds := [], alts := [], laidByText := true, laidKinds := [.data, .data, .data, .data, .sentinel, .sentinel, .pinned], laidTests := true, laidLooks := .later }
def TokenWritesCardSaid : Prop := Claim7.holds Tryd.pinned (.plain (OpenSpec.ofChange tokenWritesSpec)) tokenWritesCard

/-- THE TIED CARD OF 'dictumlaw02.TokenBack'. -/
def tokenBackCard : Claim7 := { stood := { row := tokenBackRow, standIns := [], harness := (true, "cf108de5f592cd882741201d77e7d83aeaf709b52d179efc3d8d6a30088d3971"), looks := true }, kinds := [], alts := [], laidByText := true, laidKinds := [.data, .data, .data, .data, .sentinel, .sentinel, .pinned], laidTests := true, laidLooks := .later }
def TokenBackCardSaid : Prop := Claim7.holds Tryd.pinned (.plain (OpenSpec.ofChange tokenBackSpec)) tokenBackCard

/-- THE TIED CARD OF 'dictumlaw02.TokenSilent'. -/
def tokenSilentCard : Claim7 := { stood := { row := tokenSilentRow, standIns := [], harness := (true, "cf108de5f592cd882741201d77e7d83aeaf709b52d179efc3d8d6a30088d3971"), looks := true }, kinds := [], alts := [], laidByText := true, laidKinds := [.data, .data, .data, .data, .sentinel, .sentinel, .pinned], laidTests := true, laidLooks := .later }
def TokenSilentCardSaid : Prop := Claim7.holds Tryd.pinned (.plain (OpenSpec.ofChange tokenSilentSpec)) tokenSilentCard

/-- THE TIED CARD OF 'dictumlaw02.TokenFirst'. -/
def tokenFirstCard : Claim7 := { stood := { row := tokenFirstRow, standIns := [], harness := (true, "cf108de5f592cd882741201d77e7d83aeaf709b52d179efc3d8d6a30088d3971"), looks := true }, kinds := [], alts := [], laidByText := true, laidKinds := [.data, .data, .data, .data, .sentinel, .sentinel, .pinned], laidTests := true, laidLooks := .later }
def TokenFirstCardSaid : Prop := Claim7.holds Tryd.pinned (.plain (OpenSpec.ofChange tokenFirstSpec)) tokenFirstCard

/-- THE SECOND FORM's CARD OF 'dictumlaw02.TokenSpots'. -/
def tokenSpotsUptoCard : Claim7 := { stood := { row := tokenSpotsUptoRow, standIns := [], harness := (true, "cf108de5f592cd882741201d77e7d83aeaf709b52d179efc3d8d6a30088d3971"), looks := true }, kinds := [], alts := [], laidByText := true, laidKinds := [.data, .data, .data, .data, .sentinel, .sentinel, .pinned], laidTests := true, laidLooks := .later }
def TokenSpotsUptoCardSaid : Prop := Claim7.holds Tryd.pinned (.plain (OpenSpec.upto tokenSpotsSpec)) tokenSpotsUptoCard

/-- THE SECOND FORM's CARD OF 'dictumlaw02.TokenScans'. -/
def tokenScansUptoCard : Claim7 := { stood := { row := tokenScansUptoRow, standIns := [], harness := (true, "cf108de5f592cd882741201d77e7d83aeaf709b52d179efc3d8d6a30088d3971"), looks := true }, kinds := [], alts := [], laidByText := true, laidKinds := [.data, .data, .data, .data, .sentinel, .sentinel, .pinned], laidTests := true, laidLooks := .later }
def TokenScansUptoCardSaid : Prop := Claim7.holds Tryd.pinned (.plain (OpenSpec.upto tokenScansSpec)) tokenScansUptoCard

/-- THE SECOND FORM's CARD OF 'dictumlaw02.TokenWrites'. -/
def tokenWritesUptoCard : Claim7 := { stood := { row := tokenWritesUptoRow, standIns := [], harness := (true, "cf108de5f592cd882741201d77e7d83aeaf709b52d179efc3d8d6a30088d3971"), looks := true }, kinds := [], alts := [], laidByText := true, laidKinds := [.data, .data, .data, .data, .sentinel, .sentinel, .pinned], laidTests := true, laidLooks := .later }
def TokenWritesUptoCardSaid : Prop := Claim7.holds Tryd.pinned (.plain (OpenSpec.upto tokenWritesSpec)) tokenWritesUptoCard

/-- THE SECOND FORM's CARD OF 'dictumlaw02.TokenBack'. -/
def tokenBackUptoCard : Claim7 := { stood := { row := tokenBackUptoRow, standIns := [], harness := (true, "cf108de5f592cd882741201d77e7d83aeaf709b52d179efc3d8d6a30088d3971"), looks := true }, kinds := [], alts := [], laidByText := true, laidKinds := [.data, .data, .data, .data, .sentinel, .sentinel, .pinned], laidTests := true, laidLooks := .later }
def TokenBackUptoCardSaid : Prop := Claim7.holds Tryd.pinned (.plain (OpenSpec.upto tokenBackSpec)) tokenBackUptoCard

/-- THE SECOND FORM's CARD OF 'dictumlaw02.TokenSilent'. -/
def tokenSilentUptoCard : Claim7 := { stood := { row := tokenSilentUptoRow, standIns := [], harness := (true, "cf108de5f592cd882741201d77e7d83aeaf709b52d179efc3d8d6a30088d3971"), looks := true }, kinds := [], alts := [], laidByText := true, laidKinds := [.data, .data, .data, .data, .sentinel, .sentinel, .pinned], laidTests := true, laidLooks := .later }
def TokenSilentUptoCardSaid : Prop := Claim7.holds Tryd.pinned (.plain (OpenSpec.upto tokenSilentSpec)) tokenSilentUptoCard

/-- THE SECOND FORM's CARD OF 'dictumlaw02.TokenFirst'. -/
def tokenFirstUptoCard : Claim7 := { stood := { row := tokenFirstUptoRow, standIns := [], harness := (true, "cf108de5f592cd882741201d77e7d83aeaf709b52d179efc3d8d6a30088d3971"), looks := true }, kinds := [], alts := [], laidByText := true, laidKinds := [.data, .data, .data, .data, .sentinel, .sentinel, .pinned], laidTests := true, laidLooks := .later }
def TokenFirstUptoCardSaid : Prop := Claim7.holds Tryd.pinned (.plain (OpenSpec.upto tokenFirstSpec)) tokenFirstUptoCard
end Rows
end Go.Proofs.YtjhmhdedonibbaaDoor
