/-
  DERIVED. GIVEN WITH THE SEED: THE CARDS: each row of YtfndbffnoekhhaaDoorRows.lean that lists a variable, with what it lists TIED to the program's text (the seventh form; the later family's looks); each row that meets fmt, with fmt's text TOLD by the authors' own Lean function (tested against real Go, not proved from fmt's source: count such statements apart). THE CARD IS WHAT COUNTS. Prove the row's statement (the work); the ties are given (YtfndbffnoekhhaaDoorTie.lean); close each card by the builder's one call (the guide's Derived/Test/ToyasCard.lean, 'card_holds'). Laid BY PROGRAM, IN A SANDBOX (cutbox-door.mjs). By AI agents, Wed Nov 11 2026. No macro, syntax, notation, axiom, sorry.
-/
import Derived.Test.YtfndbffnoekhhaaDoorRows
import GoSem.ClaimSeven
namespace Go.Proofs.YtfndbffnoekhhaaDoor
namespace Rows

/-- THE TIED CARD OF 'laws.FnExactViewOf'. -/
def fnExactViewOfCard : Claim7 := { stood := { row := fnExactViewOfRow, standIns := [], harness := (true, "91c73301916c4c4d5de053e8f05b105afb76c5caac4848d53a17ac64d5ac2d8d"), looks := false }, kinds := [], alts := [], laidByText := true, laidKinds := [.data, .pinned], laidTests := true, laidLooks := .later }
def FnExactViewOfCardSaid : Prop := Claim7.holds Tryd.pinned (.plain (OpenSpec.ofChange fnExactViewOfSpec)) fnExactViewOfCard

/-- THE TIED CARD OF 'laws.FnExactTreePut'. -/
def fnExactTreePutCard : Claim7 := { stood := { row := fnExactTreePutRow, standIns := [], harness := (true, "91c73301916c4c4d5de053e8f05b105afb76c5caac4848d53a17ac64d5ac2d8d"), looks := false }, kinds := [], alts := [], laidByText := true, laidKinds := [.data, .data, .data, .data, .pinned], laidTests := true, laidLooks := .later }
def FnExactTreePutCardSaid : Prop := Claim7.holds Tryd.pinned (.plain (OpenSpec.ofChange fnExactTreePutSpec)) fnExactTreePutCard

/-- THE TIED CARD OF 'laws.FnViewPut'. -/
def fnViewPutCard : Claim7 := { stood := { row := fnViewPutRow, standIns := [], harness := (true, "91c73301916c4c4d5de053e8f05b105afb76c5caac4848d53a17ac64d5ac2d8d"), looks := false }, kinds := [], alts := [], laidByText := true, laidKinds := [.data, .pinned], laidTests := true, laidLooks := .later }
def FnViewPutCardSaid : Prop := Claim7.holds Tryd.pinned (.plain (OpenSpec.ofChange fnViewPutSpec)) fnViewPutCard

/-- THE TIED CARD OF 'laws.FnViewFree'. -/
def fnViewFreeCard : Claim7 := { stood := { row := fnViewFreeRow, standIns := [], harness := (true, "91c73301916c4c4d5de053e8f05b105afb76c5caac4848d53a17ac64d5ac2d8d"), looks := false }, kinds := [], alts := [], laidByText := true, laidKinds := [.data, .pinned], laidTests := true, laidLooks := .later }
def FnViewFreeCardSaid : Prop := Claim7.holds Tryd.pinned (.plain (OpenSpec.ofChange fnViewFreeSpec)) fnViewFreeCard

/-- THE TIED CARD OF 'laws.FnExactMarksOk'. -/
def fnExactMarksOkCard : Claim7 := { stood := { row := fnExactMarksOkRow, standIns := [], harness := (true, "91c73301916c4c4d5de053e8f05b105afb76c5caac4848d53a17ac64d5ac2d8d"), looks := false }, kinds := [], alts := [], laidByText := true, laidKinds := [.data, .pinned], laidTests := true, laidLooks := .later }
def FnExactMarksOkCardSaid : Prop := Claim7.holds Tryd.pinned (.plain (OpenSpec.ofChange fnExactMarksOkSpec)) fnExactMarksOkCard

/-- THE TIED CARD OF 'laws.FnExactViewPut'. -/
def fnExactViewPutCard : Claim7 := { stood := { row := fnExactViewPutRow, standIns := [], harness := (true, "91c73301916c4c4d5de053e8f05b105afb76c5caac4848d53a17ac64d5ac2d8d"), looks := false }, kinds := [], alts := [], laidByText := true, laidKinds := [.data, .pinned], laidTests := true, laidLooks := .later }
def FnExactViewPutCardSaid : Prop := Claim7.holds Tryd.pinned (.plain (OpenSpec.ofChange fnExactViewPutSpec)) fnExactViewPutCard

/-- THE TIED CARD OF 'laws.FnViewGet'. -/
def fnViewGetCard : Claim7 := { stood := { row := fnViewGetRow, standIns := [], harness := (true, "91c73301916c4c4d5de053e8f05b105afb76c5caac4848d53a17ac64d5ac2d8d"), looks := false }, kinds := [], alts := [], laidByText := true, laidKinds := [.data, .pinned], laidTests := true, laidLooks := .later }
def FnViewGetCardSaid : Prop := Claim7.holds Tryd.pinned (.plain (OpenSpec.ofChange fnViewGetSpec)) fnViewGetCard

/-- THE TIED CARD OF 'laws.FnExactSeekSince'. -/
def fnExactSeekSinceCard : Claim7 := { stood := { row := fnExactSeekSinceRow, standIns := [], harness := (true, "91c73301916c4c4d5de053e8f05b105afb76c5caac4848d53a17ac64d5ac2d8d"), looks := false }, kinds := [], alts := [], laidByText := true, laidKinds := [.data, .pinned], laidTests := true, laidLooks := .later }
def FnExactSeekSinceCardSaid : Prop := Claim7.holds Tryd.pinned (.plain (OpenSpec.ofChange fnExactSeekSinceSpec)) fnExactSeekSinceCard

/-- THE SECOND FORM's CARD OF 'laws.FnExactViewOf'. -/
def fnExactViewOfUptoCard : Claim7 := { stood := { row := fnExactViewOfUptoRow, standIns := [], harness := (true, "91c73301916c4c4d5de053e8f05b105afb76c5caac4848d53a17ac64d5ac2d8d"), looks := false }, kinds := [], alts := [], laidByText := true, laidKinds := [.data, .pinned], laidTests := true, laidLooks := .later }
def FnExactViewOfUptoCardSaid : Prop := Claim7.holds Tryd.pinned (.plain (OpenSpec.upto fnExactViewOfSpec)) fnExactViewOfUptoCard

/-- THE SECOND FORM's CARD OF 'laws.FnExactTreePut'. -/
def fnExactTreePutUptoCard : Claim7 := { stood := { row := fnExactTreePutUptoRow, standIns := [], harness := (true, "91c73301916c4c4d5de053e8f05b105afb76c5caac4848d53a17ac64d5ac2d8d"), looks := false }, kinds := [], alts := [], laidByText := true, laidKinds := [.data, .data, .data, .data, .pinned], laidTests := true, laidLooks := .later }
def FnExactTreePutUptoCardSaid : Prop := Claim7.holds Tryd.pinned (.plain (OpenSpec.upto fnExactTreePutSpec)) fnExactTreePutUptoCard

/-- THE SECOND FORM's CARD OF 'laws.FnViewPut'. -/
def fnViewPutUptoCard : Claim7 := { stood := { row := fnViewPutUptoRow, standIns := [], harness := (true, "91c73301916c4c4d5de053e8f05b105afb76c5caac4848d53a17ac64d5ac2d8d"), looks := false }, kinds := [], alts := [], laidByText := true, laidKinds := [.data, .pinned], laidTests := true, laidLooks := .later }
def FnViewPutUptoCardSaid : Prop := Claim7.holds Tryd.pinned (.plain (OpenSpec.upto fnViewPutSpec)) fnViewPutUptoCard

/-- THE SECOND FORM's CARD OF 'laws.FnViewFree'. -/
def fnViewFreeUptoCard : Claim7 := { stood := { row := fnViewFreeUptoRow, standIns := [], harness := (true, "91c73301916c4c4d5de053e8f05b105afb76c5caac4848d53a17ac64d5ac2d8d"), looks := false }, kinds := [], alts := [], laidByText := true, laidKinds := [.data, .pinned], laidTests := true, laidLooks := .later }
def FnViewFreeUptoCardSaid : Prop := Claim7.holds Tryd.pinned (.plain (OpenSpec.upto fnViewFreeSpec)) fnViewFreeUptoCard

/-- THE SECOND FORM's CARD OF 'laws.FnExactMarksOk'. -/
def fnExactMarksOkUptoCard : Claim7 := { stood := { row := fnExactMarksOkUptoRow, standIns := [], harness := (true, "91c73301916c4c4d5de053e8f05b105afb76c5caac4848d53a17ac64d5ac2d8d"), looks := false }, kinds := [], alts := [], laidByText := true, laidKinds := [.data, .pinned], laidTests := true, laidLooks := .later }
def FnExactMarksOkUptoCardSaid : Prop := Claim7.holds Tryd.pinned (.plain (OpenSpec.upto fnExactMarksOkSpec)) fnExactMarksOkUptoCard

/-- THE SECOND FORM's CARD OF 'laws.FnExactViewPut'. -/
def fnExactViewPutUptoCard : Claim7 := { stood := { row := fnExactViewPutUptoRow, standIns := [], harness := (true, "91c73301916c4c4d5de053e8f05b105afb76c5caac4848d53a17ac64d5ac2d8d"), looks := false }, kinds := [], alts := [], laidByText := true, laidKinds := [.data, .pinned], laidTests := true, laidLooks := .later }
def FnExactViewPutUptoCardSaid : Prop := Claim7.holds Tryd.pinned (.plain (OpenSpec.upto fnExactViewPutSpec)) fnExactViewPutUptoCard

/-- THE SECOND FORM's CARD OF 'laws.FnViewGet'. -/
def fnViewGetUptoCard : Claim7 := { stood := { row := fnViewGetUptoRow, standIns := [], harness := (true, "91c73301916c4c4d5de053e8f05b105afb76c5caac4848d53a17ac64d5ac2d8d"), looks := false }, kinds := [], alts := [], laidByText := true, laidKinds := [.data, .pinned], laidTests := true, laidLooks := .later }
def FnViewGetUptoCardSaid : Prop := Claim7.holds Tryd.pinned (.plain (OpenSpec.upto fnViewGetSpec)) fnViewGetUptoCard

/-- THE SECOND FORM's CARD OF 'laws.FnExactSeekSince'. -/
def fnExactSeekSinceUptoCard : Claim7 := { stood := { row := fnExactSeekSinceUptoRow, standIns := [], harness := (true, "91c73301916c4c4d5de053e8f05b105afb76c5caac4848d53a17ac64d5ac2d8d"), looks := false }, kinds := [], alts := [], laidByText := true, laidKinds := [.data, .pinned], laidTests := true, laidLooks := .later }
def FnExactSeekSinceUptoCardSaid : Prop := Claim7.holds Tryd.pinned (.plain (OpenSpec.upto fnExactSeekSinceSpec)) fnExactSeekSinceUptoCard
end Rows
end Go.Proofs.YtfndbffnoekhhaaDoor
