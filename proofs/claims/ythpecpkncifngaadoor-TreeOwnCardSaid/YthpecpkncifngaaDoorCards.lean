/-
  DERIVED. GIVEN WITH THE SEED: THE CARDS: each row of YthpecpkncifngaaDoorRows.lean that lists a variable, with what it lists TIED to the program's text (the seventh form; the later family's looks); each row that meets fmt, with fmt's text TOLD by the authors' own Lean function (tested against real Go, not proved from fmt's source: count such statements apart). THE CARD IS WHAT COUNTS. Prove the row's statement (the work); the ties are given (YthpecpkncifngaaDoorTie.lean); close each card by the builder's one call (the guide's Derived/Test/ToyasCard.lean, 'card_holds'). Laid BY PROGRAM, IN A SANDBOX (cutbox-door.mjs). By AI agents, Wed Nov 11 2026. No macro, syntax, notation, axiom, sorry.
-/
import Derived.Test.YthpecpkncifngaaDoorRows
import GoSem.ClaimSeven
namespace Go.Proofs.YthpecpkncifngaaDoor
namespace Rows

/-- THE TIED CARD OF 'tabularylaw11.TreeChecks'. -/
def treeChecksCard : Claim7 := { stood := { row := treeChecksRow, standIns := [], harness := (true, "a4f46bc37640019db5e52a2e943c0e33592331a836c74143e226da51eba6a176"), looks := false }, kinds := [], alts := [], laidByText := true, laidKinds := [.data, .pinned], laidTests := true, laidLooks := .later }
def TreeChecksCardSaid : Prop := Claim7.holds Tryd.pinned (.plain (OpenSpec.ofChange treeChecksSpec)) treeChecksCard

/-- THE TIED CARD OF 'tabularylaw11.TreeWithout'. -/
def treeWithoutCard : Claim7 := { stood := { row := treeWithoutRow, standIns := [], harness := (true, "a4f46bc37640019db5e52a2e943c0e33592331a836c74143e226da51eba6a176"), looks := false }, kinds := [], alts := [], laidByText := true, laidKinds := [.data, .pinned], laidTests := true, laidLooks := .later }
def TreeWithoutCardSaid : Prop := Claim7.holds Tryd.pinned (.plain (OpenSpec.ofChange treeWithoutSpec)) treeWithoutCard

/-- THE TIED CARD OF 'tabularylaw11.TreeWith'. -/
def treeWithCard : Claim7 := { stood := { row := treeWithRow, standIns := [], harness := (true, "a4f46bc37640019db5e52a2e943c0e33592331a836c74143e226da51eba6a176"), looks := false }, kinds := [], alts := [], laidByText := true, laidKinds := [.data, .pinned], laidTests := true, laidLooks := .later }
def TreeWithCardSaid : Prop := Claim7.holds Tryd.pinned (.plain (OpenSpec.ofChange treeWithSpec)) treeWithCard

/-- THE TIED CARD OF 'tabularylaw11.TreeReals'. -/
def treeRealsCard : Claim7 := { stood := { row := treeRealsRow, standIns := [], harness := (true, "a4f46bc37640019db5e52a2e943c0e33592331a836c74143e226da51eba6a176"), looks := false }, kinds := [], alts := [], laidByText := true, laidKinds := [.data, .pinned], laidTests := true, laidLooks := .later }
def TreeRealsCardSaid : Prop := Claim7.holds Tryd.pinned (.plain (OpenSpec.ofChange treeRealsSpec)) treeRealsCard

/-- THE TIED CARD OF 'tabularylaw11.TreeReal'. -/
def treeRealCard : Claim7 := { stood := { row := treeRealRow, standIns := [], harness := (true, "a4f46bc37640019db5e52a2e943c0e33592331a836c74143e226da51eba6a176"), looks := false }, kinds := [], alts := [], laidByText := true, laidKinds := [.data, .pinned], laidTests := true, laidLooks := .later }
def TreeRealCardSaid : Prop := Claim7.holds Tryd.pinned (.plain (OpenSpec.ofChange treeRealSpec)) treeRealCard

/-- THE TIED CARD OF 'tabularylaw11.TreeBegins'. -/
def treeBeginsCard : Claim7 := { stood := { row := treeBeginsRow, standIns := [], harness := (true, "a4f46bc37640019db5e52a2e943c0e33592331a836c74143e226da51eba6a176"), looks := false }, kinds := [], alts := [], laidByText := true, laidKinds := [.data, .pinned], laidTests := true, laidLooks := .later }
def TreeBeginsCardSaid : Prop := Claim7.holds Tryd.pinned (.plain (OpenSpec.ofChange treeBeginsSpec)) treeBeginsCard

/-- THE TIED CARD OF 'tabularylaw11.TreeBack'. -/
def treeBackCard : Claim7 := { stood := { row := treeBackRow, standIns := [], harness := (true, "a4f46bc37640019db5e52a2e943c0e33592331a836c74143e226da51eba6a176"), looks := false }, kinds := [], alts := [], laidByText := true, laidKinds := [.data, .pinned], laidTests := true, laidLooks := .later }
def TreeBackCardSaid : Prop := Claim7.holds Tryd.pinned (.plain (OpenSpec.ofChange treeBackSpec)) treeBackCard

/-- THE TIED CARD OF 'tabularylaw11.TreeOwn'. -/
def treeOwnCard : Claim7 := { stood := { row := treeOwnRow, standIns := [], harness := (true, "a4f46bc37640019db5e52a2e943c0e33592331a836c74143e226da51eba6a176"), looks := false }, kinds := [], alts := [], laidByText := true, laidKinds := [.data, .pinned], laidTests := true, laidLooks := .later }
def TreeOwnCardSaid : Prop := Claim7.holds Tryd.pinned (.plain (OpenSpec.ofChange treeOwnSpec)) treeOwnCard

/-- THE TIED CARD OF 'tabularylaw11.TreeKnown'. -/
def treeKnownCard : Claim7 := { stood := { row := treeKnownRow, standIns := [], harness := (true, "a4f46bc37640019db5e52a2e943c0e33592331a836c74143e226da51eba6a176"), looks := false }, kinds := [], alts := [], laidByText := true, laidKinds := [.data, .pinned], laidTests := true, laidLooks := .later }
def TreeKnownCardSaid : Prop := Claim7.holds Tryd.pinned (.plain (OpenSpec.ofChange treeKnownSpec)) treeKnownCard

/-- THE SECOND FORM's CARD OF 'tabularylaw11.TreeChecks'. -/
def treeChecksUptoCard : Claim7 := { stood := { row := treeChecksUptoRow, standIns := [], harness := (true, "a4f46bc37640019db5e52a2e943c0e33592331a836c74143e226da51eba6a176"), looks := false }, kinds := [], alts := [], laidByText := true, laidKinds := [.data, .pinned], laidTests := true, laidLooks := .later }
def TreeChecksUptoCardSaid : Prop := Claim7.holds Tryd.pinned (.plain (OpenSpec.upto treeChecksSpec)) treeChecksUptoCard

/-- THE SECOND FORM's CARD OF 'tabularylaw11.TreeWithout'. -/
def treeWithoutUptoCard : Claim7 := { stood := { row := treeWithoutUptoRow, standIns := [], harness := (true, "a4f46bc37640019db5e52a2e943c0e33592331a836c74143e226da51eba6a176"), looks := false }, kinds := [], alts := [], laidByText := true, laidKinds := [.data, .pinned], laidTests := true, laidLooks := .later }
def TreeWithoutUptoCardSaid : Prop := Claim7.holds Tryd.pinned (.plain (OpenSpec.upto treeWithoutSpec)) treeWithoutUptoCard

/-- THE SECOND FORM's CARD OF 'tabularylaw11.TreeWith'. -/
def treeWithUptoCard : Claim7 := { stood := { row := treeWithUptoRow, standIns := [], harness := (true, "a4f46bc37640019db5e52a2e943c0e33592331a836c74143e226da51eba6a176"), looks := false }, kinds := [], alts := [], laidByText := true, laidKinds := [.data, .pinned], laidTests := true, laidLooks := .later }
def TreeWithUptoCardSaid : Prop := Claim7.holds Tryd.pinned (.plain (OpenSpec.upto treeWithSpec)) treeWithUptoCard

/-- THE SECOND FORM's CARD OF 'tabularylaw11.TreeReals'. -/
def treeRealsUptoCard : Claim7 := { stood := { row := treeRealsUptoRow, standIns := [], harness := (true, "a4f46bc37640019db5e52a2e943c0e33592331a836c74143e226da51eba6a176"), looks := false }, kinds := [], alts := [], laidByText := true, laidKinds := [.data, .pinned], laidTests := true, laidLooks := .later }
def TreeRealsUptoCardSaid : Prop := Claim7.holds Tryd.pinned (.plain (OpenSpec.upto treeRealsSpec)) treeRealsUptoCard

/-- THE SECOND FORM's CARD OF 'tabularylaw11.TreeReal'. -/
def treeRealUptoCard : Claim7 := { stood := { row := treeRealUptoRow, standIns := [], harness := (true, "a4f46bc37640019db5e52a2e943c0e33592331a836c74143e226da51eba6a176"), looks := false }, kinds := [], alts := [], laidByText := true, laidKinds := [.data, .pinned], laidTests := true, laidLooks := .later }
def TreeRealUptoCardSaid : Prop := Claim7.holds Tryd.pinned (.plain (OpenSpec.upto treeRealSpec)) treeRealUptoCard

/-- THE SECOND FORM's CARD OF 'tabularylaw11.TreeBegins'. -/
def treeBeginsUptoCard : Claim7 := { stood := { row := treeBeginsUptoRow, standIns := [], harness := (true, "a4f46bc37640019db5e52a2e943c0e33592331a836c74143e226da51eba6a176"), looks := false }, kinds := [], alts := [], laidByText := true, laidKinds := [.data, .pinned], laidTests := true, laidLooks := .later }
def TreeBeginsUptoCardSaid : Prop := Claim7.holds Tryd.pinned (.plain (OpenSpec.upto treeBeginsSpec)) treeBeginsUptoCard

/-- THE SECOND FORM's CARD OF 'tabularylaw11.TreeBack'. -/
def treeBackUptoCard : Claim7 := { stood := { row := treeBackUptoRow, standIns := [], harness := (true, "a4f46bc37640019db5e52a2e943c0e33592331a836c74143e226da51eba6a176"), looks := false }, kinds := [], alts := [], laidByText := true, laidKinds := [.data, .pinned], laidTests := true, laidLooks := .later }
def TreeBackUptoCardSaid : Prop := Claim7.holds Tryd.pinned (.plain (OpenSpec.upto treeBackSpec)) treeBackUptoCard

/-- THE SECOND FORM's CARD OF 'tabularylaw11.TreeOwn'. -/
def treeOwnUptoCard : Claim7 := { stood := { row := treeOwnUptoRow, standIns := [], harness := (true, "a4f46bc37640019db5e52a2e943c0e33592331a836c74143e226da51eba6a176"), looks := false }, kinds := [], alts := [], laidByText := true, laidKinds := [.data, .pinned], laidTests := true, laidLooks := .later }
def TreeOwnUptoCardSaid : Prop := Claim7.holds Tryd.pinned (.plain (OpenSpec.upto treeOwnSpec)) treeOwnUptoCard

/-- THE SECOND FORM's CARD OF 'tabularylaw11.TreeKnown'. -/
def treeKnownUptoCard : Claim7 := { stood := { row := treeKnownUptoRow, standIns := [], harness := (true, "a4f46bc37640019db5e52a2e943c0e33592331a836c74143e226da51eba6a176"), looks := false }, kinds := [], alts := [], laidByText := true, laidKinds := [.data, .pinned], laidTests := true, laidLooks := .later }
def TreeKnownUptoCardSaid : Prop := Claim7.holds Tryd.pinned (.plain (OpenSpec.upto treeKnownSpec)) treeKnownUptoCard
end Rows
end Go.Proofs.YthpecpkncifngaaDoor
