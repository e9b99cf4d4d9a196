/-
  DERIVED. GIVEN WITH THE SEED: THE CARDS: each row of YthbdbfbdllcifaaDoorRows.lean that lists a variable, with what it lists TIED to the program's text (the seventh form; the later family's looks); each row that meets fmt, with fmt's text TOLD by the authors' own Lean function (tested against real Go, not proved from fmt's source: count such statements apart). THE CARD IS WHAT COUNTS. Prove the row's statement (the work); the ties are given (YthbdbfbdllcifaaDoorTie.lean); close each card by the builder's one call (the guide's Derived/Test/ToyasCard.lean, 'card_holds'). Laid BY PROGRAM, IN A SANDBOX (cutbox-door.mjs). By AI agents, Wed Nov 11 2026. No macro, syntax, notation, axiom, sorry.
-/
import Derived.Test.YthbdbfbdllcifaaDoorRows
import GoSem.ClaimSeven
namespace Go.Proofs.YthbdbfbdllcifaaDoor
namespace Rows

/-- THE TIED CARD OF 'laws.FnExactStatLines'. -/
def fnExactStatLinesCard : Claim7 := { stood := { row := fnExactStatLinesRow, standIns := [], harness := (true, "cf0746640db13be20b847cfbc19ee9f81a24b8ba26eb28278b2ce1d2c2cb403f"), looks := false }, kinds := [], alts := [], laidByText := true, laidKinds := [.data, .pinned], laidTests := true, laidLooks := .later }
def FnExactStatLinesCardSaid : Prop := Claim7.holds Tryd.pinned (.plain (OpenSpec.ofChange fnExactStatLinesSpec)) fnExactStatLinesCard

/-- THE TIED CARD OF 'laws.FnExactViewFree'. -/
def fnExactViewFreeCard : Claim7 := { stood := { row := fnExactViewFreeRow, standIns := [], harness := (true, "cf0746640db13be20b847cfbc19ee9f81a24b8ba26eb28278b2ce1d2c2cb403f"), looks := false }, kinds := [], alts := [], laidByText := true, laidKinds := [.data, .pinned], laidTests := true, laidLooks := .later }
def FnExactViewFreeCardSaid : Prop := Claim7.holds Tryd.pinned (.plain (OpenSpec.ofChange fnExactViewFreeSpec)) fnExactViewFreeCard

/-- THE TIED CARD OF 'laws.FnSeekTree'. -/
def fnSeekTreeCard : Claim7 := { stood := { row := fnSeekTreeRow, standIns := [], harness := (true, "cf0746640db13be20b847cfbc19ee9f81a24b8ba26eb28278b2ce1d2c2cb403f"), looks := false }, kinds := [], alts := [], laidByText := true, laidKinds := [.data, .pinned], laidTests := true, laidLooks := .later }
def FnSeekTreeCardSaid : Prop := Claim7.holds Tryd.pinned (.plain (OpenSpec.ofChange fnSeekTreeSpec)) fnSeekTreeCard

/-- THE TIED CARD OF 'laws.FnExactSeekTree'. -/
def fnExactSeekTreeCard : Claim7 := { stood := { row := fnExactSeekTreeRow, standIns := [], harness := (true, "cf0746640db13be20b847cfbc19ee9f81a24b8ba26eb28278b2ce1d2c2cb403f"), looks := false }, kinds := [], alts := [], laidByText := true, laidKinds := [.data, .pinned], laidTests := true, laidLooks := .later }
def FnExactSeekTreeCardSaid : Prop := Claim7.holds Tryd.pinned (.plain (OpenSpec.ofChange fnExactSeekTreeSpec)) fnExactSeekTreeCard

/-- THE SECOND FORM's CARD OF 'laws.FnExactStatLines'. -/
def fnExactStatLinesUptoCard : Claim7 := { stood := { row := fnExactStatLinesUptoRow, standIns := [], harness := (true, "cf0746640db13be20b847cfbc19ee9f81a24b8ba26eb28278b2ce1d2c2cb403f"), looks := false }, kinds := [], alts := [], laidByText := true, laidKinds := [.data, .pinned], laidTests := true, laidLooks := .later }
def FnExactStatLinesUptoCardSaid : Prop := Claim7.holds Tryd.pinned (.plain (OpenSpec.upto fnExactStatLinesSpec)) fnExactStatLinesUptoCard

/-- THE SECOND FORM's CARD OF 'laws.FnExactViewFree'. -/
def fnExactViewFreeUptoCard : Claim7 := { stood := { row := fnExactViewFreeUptoRow, standIns := [], harness := (true, "cf0746640db13be20b847cfbc19ee9f81a24b8ba26eb28278b2ce1d2c2cb403f"), looks := false }, kinds := [], alts := [], laidByText := true, laidKinds := [.data, .pinned], laidTests := true, laidLooks := .later }
def FnExactViewFreeUptoCardSaid : Prop := Claim7.holds Tryd.pinned (.plain (OpenSpec.upto fnExactViewFreeSpec)) fnExactViewFreeUptoCard

/-- THE SECOND FORM's CARD OF 'laws.FnSeekTree'. -/
def fnSeekTreeUptoCard : Claim7 := { stood := { row := fnSeekTreeUptoRow, standIns := [], harness := (true, "cf0746640db13be20b847cfbc19ee9f81a24b8ba26eb28278b2ce1d2c2cb403f"), looks := false }, kinds := [], alts := [], laidByText := true, laidKinds := [.data, .pinned], laidTests := true, laidLooks := .later }
def FnSeekTreeUptoCardSaid : Prop := Claim7.holds Tryd.pinned (.plain (OpenSpec.upto fnSeekTreeSpec)) fnSeekTreeUptoCard

/-- THE SECOND FORM's CARD OF 'laws.FnExactSeekTree'. -/
def fnExactSeekTreeUptoCard : Claim7 := { stood := { row := fnExactSeekTreeUptoRow, standIns := [], harness := (true, "cf0746640db13be20b847cfbc19ee9f81a24b8ba26eb28278b2ce1d2c2cb403f"), looks := false }, kinds := [], alts := [], laidByText := true, laidKinds := [.data, .pinned], laidTests := true, laidLooks := .later }
def FnExactSeekTreeUptoCardSaid : Prop := Claim7.holds Tryd.pinned (.plain (OpenSpec.upto fnExactSeekTreeSpec)) fnExactSeekTreeUptoCard
end Rows
end Go.Proofs.YthbdbfbdllcifaaDoor
