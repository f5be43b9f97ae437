/-
  DERIVED. GIVEN WITH THE SEED: THE CARDS: each row of YtnceocjgcdcpgaaDoorRows.lean that lists a variable, with what it lists TIED to the program's text (the seventh form; the later family's looks); each row that meets fmt, with fmt's text TOLD by the authors' own Lean function (tested against real Go, not proved from fmt's source: count such statements apart). THE CARD IS WHAT COUNTS. Prove the row's statement (the work); the ties are given (YtnceocjgcdcpgaaDoorTie.lean); close each card by the builder's one call (the guide's Derived/Test/ToyasCard.lean, 'card_holds'). Laid BY PROGRAM, IN A SANDBOX (cutbox-door.mjs). By AI agents, Wed Nov 11 2026. No macro, syntax, notation, axiom, sorry.
-/
import Derived.Test.YtnceocjgcdcpgaaDoorRows
import GoSem.ClaimSeven
namespace Go.Proofs.YtnceocjgcdcpgaaDoor
namespace Rows

/-- THE TIED CARD OF 'tabularylaw08.NameLeads'. -/
def nameLeadsCard : Claim7 := { stood := { row := nameLeadsRow, standIns := [], harness := (true, "94ca2e84527a45a0200475151871c27ca57d77b8b268b7f0491cccf585befdd0"), looks := false }, kinds := [], alts := [], laidByText := true, laidKinds := [.data, .pinned], laidTests := true, laidLooks := .later }
def NameLeadsCardSaid : Prop := Claim7.holds Tryd.pinned (.plain (OpenSpec.ofChange nameLeadsSpec)) nameLeadsCard

/-- THE TIED CARD OF 'tabularylaw08.NameOrder'. -/
def nameOrderCard : Claim7 := { stood := { row := nameOrderRow, standIns := [], harness := (true, "94ca2e84527a45a0200475151871c27ca57d77b8b268b7f0491cccf585befdd0"), looks := false }, kinds := [], alts := [], laidByText := true, laidKinds := [.data, .pinned], laidTests := true, laidLooks := .later }
def NameOrderCardSaid : Prop := Claim7.holds Tryd.pinned (.plain (OpenSpec.ofChange nameOrderSpec)) nameOrderCard

/-- THE TIED CARD OF 'tabularylaw08.NameInside'. -/
def nameInsideCard : Claim7 := { stood := { row := nameInsideRow, standIns := [], harness := (true, "94ca2e84527a45a0200475151871c27ca57d77b8b268b7f0491cccf585befdd0"), looks := false }, kinds := [], alts := [], laidByText := true, laidKinds := [.data, .pinned], laidTests := true, laidLooks := .later }
def NameInsideCardSaid : Prop := Claim7.holds Tryd.pinned (.plain (OpenSpec.ofChange nameInsideSpec)) nameInsideCard

/-- THE TIED CARD OF 'tabularylaw08.NameCuts'. -/
def nameCutsCard : Claim7 := { stood := { row := nameCutsRow, standIns := [], harness := (true, "94ca2e84527a45a0200475151871c27ca57d77b8b268b7f0491cccf585befdd0"), looks := false }, kinds := [], alts := [], laidByText := true, laidKinds := [.data, .pinned], laidTests := true, laidLooks := .later }
def NameCutsCardSaid : Prop := Claim7.holds Tryd.pinned (.plain (OpenSpec.ofChange nameCutsSpec)) nameCutsCard

/-- THE TIED CARD OF 'tabularylaw08.NameKnown'. -/
def nameKnownCard : Claim7 := { stood := { row := nameKnownRow, standIns := [], harness := (true, "94ca2e84527a45a0200475151871c27ca57d77b8b268b7f0491cccf585befdd0"), looks := false }, kinds := [], alts := [], laidByText := true, laidKinds := [.data, .pinned], laidTests := true, laidLooks := .later }
def NameKnownCardSaid : Prop := Claim7.holds Tryd.pinned (.plain (OpenSpec.ofChange nameKnownSpec)) nameKnownCard

/-- THE SECOND FORM's CARD OF 'tabularylaw08.NameLeads'. -/
def nameLeadsUptoCard : Claim7 := { stood := { row := nameLeadsUptoRow, standIns := [], harness := (true, "94ca2e84527a45a0200475151871c27ca57d77b8b268b7f0491cccf585befdd0"), looks := false }, kinds := [], alts := [], laidByText := true, laidKinds := [.data, .pinned], laidTests := true, laidLooks := .later }
def NameLeadsUptoCardSaid : Prop := Claim7.holds Tryd.pinned (.plain (OpenSpec.upto nameLeadsSpec)) nameLeadsUptoCard

/-- THE SECOND FORM's CARD OF 'tabularylaw08.NameOrder'. -/
def nameOrderUptoCard : Claim7 := { stood := { row := nameOrderUptoRow, standIns := [], harness := (true, "94ca2e84527a45a0200475151871c27ca57d77b8b268b7f0491cccf585befdd0"), looks := false }, kinds := [], alts := [], laidByText := true, laidKinds := [.data, .pinned], laidTests := true, laidLooks := .later }
def NameOrderUptoCardSaid : Prop := Claim7.holds Tryd.pinned (.plain (OpenSpec.upto nameOrderSpec)) nameOrderUptoCard

/-- THE SECOND FORM's CARD OF 'tabularylaw08.NameInside'. -/
def nameInsideUptoCard : Claim7 := { stood := { row := nameInsideUptoRow, standIns := [], harness := (true, "94ca2e84527a45a0200475151871c27ca57d77b8b268b7f0491cccf585befdd0"), looks := false }, kinds := [], alts := [], laidByText := true, laidKinds := [.data, .pinned], laidTests := true, laidLooks := .later }
def NameInsideUptoCardSaid : Prop := Claim7.holds Tryd.pinned (.plain (OpenSpec.upto nameInsideSpec)) nameInsideUptoCard

/-- THE SECOND FORM's CARD OF 'tabularylaw08.NameCuts'. -/
def nameCutsUptoCard : Claim7 := { stood := { row := nameCutsUptoRow, standIns := [], harness := (true, "94ca2e84527a45a0200475151871c27ca57d77b8b268b7f0491cccf585befdd0"), looks := false }, kinds := [], alts := [], laidByText := true, laidKinds := [.data, .pinned], laidTests := true, laidLooks := .later }
def NameCutsUptoCardSaid : Prop := Claim7.holds Tryd.pinned (.plain (OpenSpec.upto nameCutsSpec)) nameCutsUptoCard

/-- THE SECOND FORM's CARD OF 'tabularylaw08.NameKnown'. -/
def nameKnownUptoCard : Claim7 := { stood := { row := nameKnownUptoRow, standIns := [], harness := (true, "94ca2e84527a45a0200475151871c27ca57d77b8b268b7f0491cccf585befdd0"), looks := false }, kinds := [], alts := [], laidByText := true, laidKinds := [.data, .pinned], laidTests := true, laidLooks := .later }
def NameKnownUptoCardSaid : Prop := Claim7.holds Tryd.pinned (.plain (OpenSpec.upto nameKnownSpec)) nameKnownUptoCard
end Rows
end Go.Proofs.YtnceocjgcdcpgaaDoor
