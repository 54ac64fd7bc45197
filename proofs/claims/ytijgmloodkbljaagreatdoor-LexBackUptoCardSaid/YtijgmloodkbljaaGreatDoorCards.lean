/-
  DERIVED. GIVEN WITH THE SEED: THE CARDS: each row of YtijgmloodkbljaaGreatDoorRows.lean that lists a variable, with what it lists TIED to the program's text (the seventh form; the later family's looks); each row that meets fmt, with fmt's text TOLD by the authors' own Lean function (tested against real Go, not proved from fmt's source: count such statements apart). THE CARD IS WHAT COUNTS. Prove the row's statement (the work); the ties are given (YtijgmloodkbljaaGreatDoorTie.lean); close each card by the builder's one call (the guide's Derived/Test/ToyasCard.lean, 'card_holds'). Laid BY PROGRAM, IN A SANDBOX (cutbox-door.mjs). By AI agents, Wed Nov 11 2026. No macro, syntax, notation, axiom, sorry.
-/
import Derived.Test.YtijgmloodkbljaaGreatDoorRows
import GoSem.ClaimSeven
namespace Go.Proofs.YtijgmloodkbljaaGreatDoor
namespace Rows

/-- THE TIED CARD OF 'ramblelaw15.LexPrints'. -/
def lexPrintsCard : Claim7 := { stood := { row := lexPrintsRow, standIns := [], harness := (true, "4d0ee415914720a5d5c4effde0965ce9a0462bd87a681ec7afa73020f5da21f4"), looks := true }, kinds := [], alts := [], laidByText := true, laidKinds := [.data, .data, .data, .data, .sentinel, .sentinel, .pinned], laidTests := true, laidLooks := .later }
def LexPrintsCardSaid : Prop := Claim7.holds Tryz.pinned (.plain (OpenSpec.ofChange lexPrintsSpec)) lexPrintsCard

/-- THE TIED CARD OF 'ramblelaw15.LexBack'. -/
def lexBackCard : Claim7 := { stood := { row := lexBackRow, standIns := [], harness := (true, "4d0ee415914720a5d5c4effde0965ce9a0462bd87a681ec7afa73020f5da21f4"), looks := true }, kinds := [], alts := [], laidByText := true, laidKinds := [.data, .data, .data, .data, .sentinel, .sentinel, .pinned], laidTests := true, laidLooks := .later }
def LexBackCardSaid : Prop := Claim7.holds Tryz.pinned (.plain (OpenSpec.ofChange lexBackSpec)) lexBackCard

/-- THE TIED CARD OF 'ramblelaw02.ValueSums'. -/
def valueSumsCard : Claim7 := { stood := { row := valueSumsRow, standIns := [], harness := (true, "4d0ee415914720a5d5c4effde0965ce9a0462bd87a681ec7afa73020f5da21f4"), looks := true }, kinds := [], alts := [], laidByText := true, laidKinds := [.data, .data, .data, .data, .sentinel, .sentinel, .pinned], laidTests := true, laidLooks := .later }
def ValueSumsCardSaid : Prop := Claim7.holds Tryz.pinned (.plain (OpenSpec.ofChange valueSumsSpec)) valueSumsCard

/-- THE TIED CARD OF 'ramblelaw23.ResultLists'. -/
def resultListsCard : Claim7 := { stood := { row := resultListsRow, standIns := [], harness := (true, "4d0ee415914720a5d5c4effde0965ce9a0462bd87a681ec7afa73020f5da21f4"), looks := true }, kinds := [], alts := [], laidByText := true, laidKinds := [.data, .data, .data, .sentinel, .sentinel], laidTests := true, laidLooks := .later }
def ResultListsCardSaid : Prop := Claim7.holds Tryz.pinned (.plain (OpenSpec.ofChange resultListsSpec)) resultListsCard

/-- THE TIED CARD OF 'ramblelaw23.ResultBags'. -/
def resultBagsCard : Claim7 := { stood := { row := resultBagsRow, standIns := [], harness := (true, "4d0ee415914720a5d5c4effde0965ce9a0462bd87a681ec7afa73020f5da21f4"), looks := true }, kinds := [], alts := [], laidByText := true, laidKinds := [.data, .data, .data, .sentinel, .sentinel], laidTests := true, laidLooks := .later }
def ResultBagsCardSaid : Prop := Claim7.holds Tryz.pinned (.plain (OpenSpec.ofChange resultBagsSpec)) resultBagsCard

/-- THE TIED CARD OF 'ramblelaw23.ResultBack'. -/
def resultBackCard : Claim7 := { stood := { row := resultBackRow, standIns := [], harness := (true, "4d0ee415914720a5d5c4effde0965ce9a0462bd87a681ec7afa73020f5da21f4"), looks := true }, kinds := [], alts := [], laidByText := true, laidKinds := [.data, .data, .data, .sentinel, .sentinel], laidTests := true, laidLooks := .later }
def ResultBackCardSaid : Prop := Claim7.holds Tryz.pinned (.plain (OpenSpec.ofChange resultBackSpec)) resultBackCard

/-- THE TIED CARD OF 'ramblelaw16.ParseBlanks'. -/
def parseBlanksCard : Claim7 := { stood := { row := parseBlanksRow, standIns := [], harness := (true, "4d0ee415914720a5d5c4effde0965ce9a0462bd87a681ec7afa73020f5da21f4"), looks := true }, kinds := [], alts := [], laidByText := true, laidKinds := [.data, .data, .data, .data, .sentinel, .sentinel, .pinned], laidTests := true, laidLooks := .later }
def ParseBlanksCardSaid : Prop := Claim7.holds Tryz.pinned (.plain (OpenSpec.ofChange parseBlanksSpec)) parseBlanksCard

/-- THE TIED CARD OF 'ramblelaw16.ParseValues'. -/
def parseValuesCard : Claim7 := { stood := { row := parseValuesRow, standIns := [], harness := (true, "4d0ee415914720a5d5c4effde0965ce9a0462bd87a681ec7afa73020f5da21f4"), looks := true }, kinds := [], alts := [], laidByText := true, laidKinds := [.data, .data, .data, .data, .sentinel, .sentinel, .pinned], laidTests := true, laidLooks := .later }
def ParseValuesCardSaid : Prop := Claim7.holds Tryz.pinned (.plain (OpenSpec.ofChange parseValuesSpec)) parseValuesCard

/-- THE TIED CARD OF 'ramblelaw23.ResultAdds'. -/
def resultAddsCard : Claim7 := { stood := { row := resultAddsRow, standIns := [], harness := (true, "4d0ee415914720a5d5c4effde0965ce9a0462bd87a681ec7afa73020f5da21f4"), looks := true }, kinds := [], alts := [], laidByText := true, laidKinds := [.data, .data, .data, .sentinel, .sentinel], laidTests := true, laidLooks := .later }
def ResultAddsCardSaid : Prop := Claim7.holds Tryz.pinned (.plain (OpenSpec.ofChange resultAddsSpec)) resultAddsCard

/-- THE TIED CARD OF 'ramblelaw16.ParsePrints'. -/
def parsePrintsCard : Claim7 := { stood := { row := parsePrintsRow, standIns := [], harness := (true, "4d0ee415914720a5d5c4effde0965ce9a0462bd87a681ec7afa73020f5da21f4"), looks := true }, kinds := [], alts := [], laidByText := true, laidKinds := [.data, .data, .data, .data, .sentinel, .sentinel, .pinned], laidTests := true, laidLooks := .later }
def ParsePrintsCardSaid : Prop := Claim7.holds Tryz.pinned (.plain (OpenSpec.ofChange parsePrintsSpec)) parsePrintsCard

/-- THE TIED CARD OF 'ramblelaw16.ParseBack'. -/
def parseBackCard : Claim7 := { stood := { row := parseBackRow, standIns := [], harness := (true, "4d0ee415914720a5d5c4effde0965ce9a0462bd87a681ec7afa73020f5da21f4"), looks := true }, kinds := [], alts := [], laidByText := true, laidKinds := [.data, .data, .data, .data, .sentinel, .sentinel, .pinned], laidTests := true, laidLooks := .later }
def ParseBackCardSaid : Prop := Claim7.holds Tryz.pinned (.plain (OpenSpec.ofChange parseBackSpec)) parseBackCard

/-- THE TIED CARD OF 'ramblelaw16.ParseApart'. -/
def parseApartCard : Claim7 := { stood := { row := parseApartRow, standIns := [], harness := (true, "4d0ee415914720a5d5c4effde0965ce9a0462bd87a681ec7afa73020f5da21f4"), looks := true }, kinds := [], alts := [], laidByText := true, laidKinds := [.data, .data, .data, .data, .sentinel, .sentinel, .pinned], laidTests := true, laidLooks := .later }
def ParseApartCardSaid : Prop := Claim7.holds Tryz.pinned (.plain (OpenSpec.ofChange parseApartSpec)) parseApartCard

/-- THE SECOND FORM's CARD OF 'ramblelaw15.LexPrints'. -/
def lexPrintsUptoCard : Claim7 := { stood := { row := lexPrintsUptoRow, standIns := [], harness := (true, "4d0ee415914720a5d5c4effde0965ce9a0462bd87a681ec7afa73020f5da21f4"), looks := true }, kinds := [], alts := [], laidByText := true, laidKinds := [.data, .data, .data, .data, .sentinel, .sentinel, .pinned], laidTests := true, laidLooks := .later }
def LexPrintsUptoCardSaid : Prop := Claim7.holds Tryz.pinned (.plain (OpenSpec.upto lexPrintsSpec)) lexPrintsUptoCard

/-- THE SECOND FORM's CARD OF 'ramblelaw15.LexBack'. -/
def lexBackUptoCard : Claim7 := { stood := { row := lexBackUptoRow, standIns := [], harness := (true, "4d0ee415914720a5d5c4effde0965ce9a0462bd87a681ec7afa73020f5da21f4"), looks := true }, kinds := [], alts := [], laidByText := true, laidKinds := [.data, .data, .data, .data, .sentinel, .sentinel, .pinned], laidTests := true, laidLooks := .later }
def LexBackUptoCardSaid : Prop := Claim7.holds Tryz.pinned (.plain (OpenSpec.upto lexBackSpec)) lexBackUptoCard

/-- THE SECOND FORM's CARD OF 'ramblelaw02.ValueSums'. -/
def valueSumsUptoCard : Claim7 := { stood := { row := valueSumsUptoRow, standIns := [], harness := (true, "4d0ee415914720a5d5c4effde0965ce9a0462bd87a681ec7afa73020f5da21f4"), looks := true }, kinds := [], alts := [], laidByText := true, laidKinds := [.data, .data, .data, .data, .sentinel, .sentinel, .pinned], laidTests := true, laidLooks := .later }
def ValueSumsUptoCardSaid : Prop := Claim7.holds Tryz.pinned (.plain (OpenSpec.upto valueSumsSpec)) valueSumsUptoCard

/-- THE SECOND FORM's CARD OF 'ramblelaw23.ResultLists'. -/
def resultListsUptoCard : Claim7 := { stood := { row := resultListsUptoRow, standIns := [], harness := (true, "4d0ee415914720a5d5c4effde0965ce9a0462bd87a681ec7afa73020f5da21f4"), looks := true }, kinds := [], alts := [], laidByText := true, laidKinds := [.data, .data, .data, .sentinel, .sentinel], laidTests := true, laidLooks := .later }
def ResultListsUptoCardSaid : Prop := Claim7.holds Tryz.pinned (.plain (OpenSpec.upto resultListsSpec)) resultListsUptoCard

/-- THE SECOND FORM's CARD OF 'ramblelaw23.ResultBags'. -/
def resultBagsUptoCard : Claim7 := { stood := { row := resultBagsUptoRow, standIns := [], harness := (true, "4d0ee415914720a5d5c4effde0965ce9a0462bd87a681ec7afa73020f5da21f4"), looks := true }, kinds := [], alts := [], laidByText := true, laidKinds := [.data, .data, .data, .sentinel, .sentinel], laidTests := true, laidLooks := .later }
def ResultBagsUptoCardSaid : Prop := Claim7.holds Tryz.pinned (.plain (OpenSpec.upto resultBagsSpec)) resultBagsUptoCard

/-- THE SECOND FORM's CARD OF 'ramblelaw23.ResultBack'. -/
def resultBackUptoCard : Claim7 := { stood := { row := resultBackUptoRow, standIns := [], harness := (true, "4d0ee415914720a5d5c4effde0965ce9a0462bd87a681ec7afa73020f5da21f4"), looks := true }, kinds := [], alts := [], laidByText := true, laidKinds := [.data, .data, .data, .sentinel, .sentinel], laidTests := true, laidLooks := .later }
def ResultBackUptoCardSaid : Prop := Claim7.holds Tryz.pinned (.plain (OpenSpec.upto resultBackSpec)) resultBackUptoCard

/-- THE SECOND FORM's CARD OF 'ramblelaw16.ParseBlanks'. -/
def parseBlanksUptoCard : Claim7 := { stood := { row := parseBlanksUptoRow, standIns := [], harness := (true, "4d0ee415914720a5d5c4effde0965ce9a0462bd87a681ec7afa73020f5da21f4"), looks := true }, kinds := [], alts := [], laidByText := true, laidKinds := [.data, .data, .data, .data, .sentinel, .sentinel, .pinned], laidTests := true, laidLooks := .later }
def ParseBlanksUptoCardSaid : Prop := Claim7.holds Tryz.pinned (.plain (OpenSpec.upto parseBlanksSpec)) parseBlanksUptoCard

/-- THE SECOND FORM's CARD OF 'ramblelaw16.ParseValues'. -/
def parseValuesUptoCard : Claim7 := { stood := { row := parseValuesUptoRow, standIns := [], harness := (true, "4d0ee415914720a5d5c4effde0965ce9a0462bd87a681ec7afa73020f5da21f4"), looks := true }, kinds := [], alts := [], laidByText := true, laidKinds := [.data, .data, .data, .data, .sentinel, .sentinel, .pinned], laidTests := true, laidLooks := .later }
def ParseValuesUptoCardSaid : Prop := Claim7.holds Tryz.pinned (.plain (OpenSpec.upto parseValuesSpec)) parseValuesUptoCard

/-- THE SECOND FORM's CARD OF 'ramblelaw23.ResultAdds'. -/
def resultAddsUptoCard : Claim7 := { stood := { row := resultAddsUptoRow, standIns := [], harness := (true, "4d0ee415914720a5d5c4effde0965ce9a0462bd87a681ec7afa73020f5da21f4"), looks := true }, kinds := [], alts := [], laidByText := true, laidKinds := [.data, .data, .data, .sentinel, .sentinel], laidTests := true, laidLooks := .later }
def ResultAddsUptoCardSaid : Prop := Claim7.holds Tryz.pinned (.plain (OpenSpec.upto resultAddsSpec)) resultAddsUptoCard

/-- THE SECOND FORM's CARD OF 'ramblelaw16.ParsePrints'. -/
def parsePrintsUptoCard : Claim7 := { stood := { row := parsePrintsUptoRow, standIns := [], harness := (true, "4d0ee415914720a5d5c4effde0965ce9a0462bd87a681ec7afa73020f5da21f4"), looks := true }, kinds := [], alts := [], laidByText := true, laidKinds := [.data, .data, .data, .data, .sentinel, .sentinel, .pinned], laidTests := true, laidLooks := .later }
def ParsePrintsUptoCardSaid : Prop := Claim7.holds Tryz.pinned (.plain (OpenSpec.upto parsePrintsSpec)) parsePrintsUptoCard

/-- THE SECOND FORM's CARD OF 'ramblelaw16.ParseBack'. -/
def parseBackUptoCard : Claim7 := { stood := { row := parseBackUptoRow, standIns := [], harness := (true, "4d0ee415914720a5d5c4effde0965ce9a0462bd87a681ec7afa73020f5da21f4"), looks := true }, kinds := [], alts := [], laidByText := true, laidKinds := [.data, .data, .data, .data, .sentinel, .sentinel, .pinned], laidTests := true, laidLooks := .later }
def ParseBackUptoCardSaid : Prop := Claim7.holds Tryz.pinned (.plain (OpenSpec.upto parseBackSpec)) parseBackUptoCard

/-- THE SECOND FORM's CARD OF 'ramblelaw16.ParseApart'. -/
def parseApartUptoCard : Claim7 := { stood := { row := parseApartUptoRow, standIns := [], harness := (true, "4d0ee415914720a5d5c4effde0965ce9a0462bd87a681ec7afa73020f5da21f4"), looks := true }, kinds := [], alts := [], laidByText := true, laidKinds := [.data, .data, .data, .data, .sentinel, .sentinel, .pinned], laidTests := true, laidLooks := .later }
def ParseApartUptoCardSaid : Prop := Claim7.holds Tryz.pinned (.plain (OpenSpec.upto parseApartSpec)) parseApartUptoCard
end Rows
end Go.Proofs.YtijgmloodkbljaaGreatDoor
