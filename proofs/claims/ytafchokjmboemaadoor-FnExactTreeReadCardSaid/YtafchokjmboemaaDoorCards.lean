/-
  DERIVED. GIVEN WITH THE SEED: THE CARDS: each row of YtafchokjmboemaaDoorRows.lean that lists a variable, with what it lists TIED to the program's text (the seventh form; the later family's looks); each row that meets fmt, with fmt's text TOLD by the authors' own Lean function (tested against real Go, not proved from fmt's source: count such statements apart). THE CARD IS WHAT COUNTS. Prove the row's statement (the work); the ties are given (YtafchokjmboemaaDoorTie.lean); close each card by the builder's one call (the guide's Derived/Test/ToyasCard.lean, 'card_holds'). Laid BY PROGRAM, IN A SANDBOX (cutbox-door.mjs). By AI agents, Wed Nov 11 2026. No macro, syntax, notation, axiom, sorry.
-/
import Derived.Test.YtafchokjmboemaaDoorRows
import GoSem.ClaimSeven
namespace Go.Proofs.YtafchokjmboemaaDoor
namespace Rows

/-- THE TIED CARD OF 'laws.FnExactSeekTree'. -/
def fnExactSeekTreeCard : Claim7 := { stood := { row := fnExactSeekTreeRow, standIns := [], harness := (true, "a7e9da8597d7c7a23eeee0832950e33af8103af7fdeaa22d69bb8b06204e2c85"), looks := true }, kinds := [], alts := [], laidByText := true, laidKinds := [.data, .pinned], laidTests := true, laidLooks := .later }
def FnExactSeekTreeCardSaid : Prop := Claim7.holds Tryd.pinned (.plain (OpenSpec.ofChange fnExactSeekTreeSpec)) fnExactSeekTreeCard

/-- THE TIED CARD OF 'laws.FnExactViewOf'. -/
def fnExactViewOfCard : Claim7 := { stood := { row := fnExactViewOfRow, standIns := [], harness := (true, "a7e9da8597d7c7a23eeee0832950e33af8103af7fdeaa22d69bb8b06204e2c85"), looks := true }, kinds := [], alts := [], laidByText := true, laidKinds := [.data, .pinned], laidTests := true, laidLooks := .later }
def FnExactViewOfCardSaid : Prop := Claim7.holds Tryd.pinned (.plain (OpenSpec.ofChange fnExactViewOfSpec)) fnExactViewOfCard

/-- THE TIED CARD OF 'laws.FnExactViewPut'. -/
def fnExactViewPutCard : Claim7 := { stood := { row := fnExactViewPutRow, standIns := [], harness := (true, "a7e9da8597d7c7a23eeee0832950e33af8103af7fdeaa22d69bb8b06204e2c85"), looks := true }, kinds := [], alts := [], laidByText := true, laidKinds := [.data, .pinned], laidTests := true, laidLooks := .later }
def FnExactViewPutCardSaid : Prop := Claim7.holds Tryd.pinned (.plain (OpenSpec.ofChange fnExactViewPutSpec)) fnExactViewPutCard

/-- THE TIED CARD OF 'laws.FnViewPut'. -/
def fnViewPutCard : Claim7 := { stood := { row := fnViewPutRow, standIns := [], harness := (true, "a7e9da8597d7c7a23eeee0832950e33af8103af7fdeaa22d69bb8b06204e2c85"), looks := true }, kinds := [], alts := [], laidByText := true, laidKinds := [.data, .pinned], laidTests := true, laidLooks := .later }
def FnViewPutCardSaid : Prop := Claim7.holds Tryd.pinned (.plain (OpenSpec.ofChange fnViewPutSpec)) fnViewPutCard

/-- THE TIED CARD OF 'laws.FnViewFree'. -/
def fnViewFreeCard : Claim7 := { stood := { row := fnViewFreeRow, standIns := [], harness := (true, "a7e9da8597d7c7a23eeee0832950e33af8103af7fdeaa22d69bb8b06204e2c85"), looks := true }, kinds := [], alts := [], laidByText := true, laidKinds := [.data, .pinned], laidTests := true, laidLooks := .later }
def FnViewFreeCardSaid : Prop := Claim7.holds Tryd.pinned (.plain (OpenSpec.ofChange fnViewFreeSpec)) fnViewFreeCard

/-- THE TIED CARD OF 'laws.FnExactTreeRead'. -/
def fnExactTreeReadCard : Claim7 := { stood := { row := fnExactTreeReadRow, standIns := [], harness := (true, "a7e9da8597d7c7a23eeee0832950e33af8103af7fdeaa22d69bb8b06204e2c85"), looks := true }, kinds := [], alts := [], laidByText := true, laidKinds := [.data, .data, .data, .data, .sentinel, .sentinel, .pinned], laidTests := true, laidLooks := .later }
def FnExactTreeReadCardSaid : Prop := Claim7.holds Tryd.pinned (.plain (OpenSpec.ofChange fnExactTreeReadSpec)) fnExactTreeReadCard

/-- THE TIED CARD OF 'laws.FnTreePut'. -/
def fnTreePutCard : Claim7 := { stood := { row := fnTreePutRow, standIns := [], harness := (true, "a7e9da8597d7c7a23eeee0832950e33af8103af7fdeaa22d69bb8b06204e2c85"), looks := true }, kinds := [], alts := [], laidByText := true, laidKinds := [.data, .data, .data, .data, .sentinel, .sentinel, .pinned], laidTests := true, laidLooks := .later }
def FnTreePutCardSaid : Prop := Claim7.holds Tryd.pinned (.plain (OpenSpec.ofChange fnTreePutSpec)) fnTreePutCard

/-- THE SECOND FORM's CARD OF 'laws.FnExactSeekTree'. -/
def fnExactSeekTreeUptoCard : Claim7 := { stood := { row := fnExactSeekTreeUptoRow, standIns := [], harness := (true, "a7e9da8597d7c7a23eeee0832950e33af8103af7fdeaa22d69bb8b06204e2c85"), looks := true }, kinds := [], alts := [], laidByText := true, laidKinds := [.data, .pinned], laidTests := true, laidLooks := .later }
def FnExactSeekTreeUptoCardSaid : Prop := Claim7.holds Tryd.pinned (.plain (OpenSpec.upto fnExactSeekTreeSpec)) fnExactSeekTreeUptoCard

/-- THE SECOND FORM's CARD OF 'laws.FnExactViewOf'. -/
def fnExactViewOfUptoCard : Claim7 := { stood := { row := fnExactViewOfUptoRow, standIns := [], harness := (true, "a7e9da8597d7c7a23eeee0832950e33af8103af7fdeaa22d69bb8b06204e2c85"), looks := true }, kinds := [], alts := [], laidByText := true, laidKinds := [.data, .pinned], laidTests := true, laidLooks := .later }
def FnExactViewOfUptoCardSaid : Prop := Claim7.holds Tryd.pinned (.plain (OpenSpec.upto fnExactViewOfSpec)) fnExactViewOfUptoCard

/-- THE SECOND FORM's CARD OF 'laws.FnExactViewPut'. -/
def fnExactViewPutUptoCard : Claim7 := { stood := { row := fnExactViewPutUptoRow, standIns := [], harness := (true, "a7e9da8597d7c7a23eeee0832950e33af8103af7fdeaa22d69bb8b06204e2c85"), looks := true }, kinds := [], alts := [], laidByText := true, laidKinds := [.data, .pinned], laidTests := true, laidLooks := .later }
def FnExactViewPutUptoCardSaid : Prop := Claim7.holds Tryd.pinned (.plain (OpenSpec.upto fnExactViewPutSpec)) fnExactViewPutUptoCard

/-- THE SECOND FORM's CARD OF 'laws.FnViewPut'. -/
def fnViewPutUptoCard : Claim7 := { stood := { row := fnViewPutUptoRow, standIns := [], harness := (true, "a7e9da8597d7c7a23eeee0832950e33af8103af7fdeaa22d69bb8b06204e2c85"), looks := true }, kinds := [], alts := [], laidByText := true, laidKinds := [.data, .pinned], laidTests := true, laidLooks := .later }
def FnViewPutUptoCardSaid : Prop := Claim7.holds Tryd.pinned (.plain (OpenSpec.upto fnViewPutSpec)) fnViewPutUptoCard

/-- THE SECOND FORM's CARD OF 'laws.FnViewFree'. -/
def fnViewFreeUptoCard : Claim7 := { stood := { row := fnViewFreeUptoRow, standIns := [], harness := (true, "a7e9da8597d7c7a23eeee0832950e33af8103af7fdeaa22d69bb8b06204e2c85"), looks := true }, kinds := [], alts := [], laidByText := true, laidKinds := [.data, .pinned], laidTests := true, laidLooks := .later }
def FnViewFreeUptoCardSaid : Prop := Claim7.holds Tryd.pinned (.plain (OpenSpec.upto fnViewFreeSpec)) fnViewFreeUptoCard

/-- THE SECOND FORM's CARD OF 'laws.FnExactTreeRead'. -/
def fnExactTreeReadUptoCard : Claim7 := { stood := { row := fnExactTreeReadUptoRow, standIns := [], harness := (true, "a7e9da8597d7c7a23eeee0832950e33af8103af7fdeaa22d69bb8b06204e2c85"), looks := true }, kinds := [], alts := [], laidByText := true, laidKinds := [.data, .data, .data, .data, .sentinel, .sentinel, .pinned], laidTests := true, laidLooks := .later }
def FnExactTreeReadUptoCardSaid : Prop := Claim7.holds Tryd.pinned (.plain (OpenSpec.upto fnExactTreeReadSpec)) fnExactTreeReadUptoCard

/-- THE SECOND FORM's CARD OF 'laws.FnTreePut'. -/
def fnTreePutUptoCard : Claim7 := { stood := { row := fnTreePutUptoRow, standIns := [], harness := (true, "a7e9da8597d7c7a23eeee0832950e33af8103af7fdeaa22d69bb8b06204e2c85"), looks := true }, kinds := [], alts := [], laidByText := true, laidKinds := [.data, .data, .data, .data, .sentinel, .sentinel, .pinned], laidTests := true, laidLooks := .later }
def FnTreePutUptoCardSaid : Prop := Claim7.holds Tryd.pinned (.plain (OpenSpec.upto fnTreePutSpec)) fnTreePutUptoCard
end Rows
end Go.Proofs.YtafchokjmboemaaDoor
