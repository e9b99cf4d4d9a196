/-
  DERIVED. GIVEN WITH THE SEED: THE CARDS: each row of YtpchbfkiingmjaaDoorRows.lean that lists a variable, with what it lists TIED to the program's text (the seventh form; the later family's looks); each row that meets fmt, with fmt's text TOLD by the authors' own Lean function (tested against real Go, not proved from fmt's source: count such statements apart). THE CARD IS WHAT COUNTS. Prove the row's statement (the work); the ties are given (YtpchbfkiingmjaaDoorTie.lean); close each card by the builder's one call (the guide's Derived/Test/ToyasCard.lean, 'card_holds'). Laid BY PROGRAM, IN A SANDBOX (cutbox-door.mjs). By AI agents, Wed Nov 11 2026. No macro, syntax, notation, axiom, sorry.
-/
import Derived.Test.YtpchbfkiingmjaaDoorRows
import GoSem.ClaimSeven
namespace Go.Proofs.YtpchbfkiingmjaaDoor
namespace Rows

/-- THE TIED CARD OF 'laws.FnViewGet'. -/
def fnViewGetCard : Claim7 := { stood := { row := fnViewGetRow, standIns := [], harness := (true, "e1257d35dbe9716a4394aa8a560f255a04cc73055a4777d2dbb730dee20689c1"), looks := true }, kinds := [], alts := [], laidByText := true, laidKinds := [.data, .pinned], laidTests := true, laidLooks := .later }
def FnViewGetCardSaid : Prop := Claim7.holds Tryd.pinned (.plain (OpenSpec.ofChange fnViewGetSpec)) fnViewGetCard

/-- THE TIED CARD OF 'laws.FnTreeRead'. -/
def fnTreeReadCard : Claim7 := { stood := { row := fnTreeReadRow, standIns := [], harness := (true, "e1257d35dbe9716a4394aa8a560f255a04cc73055a4777d2dbb730dee20689c1"), looks := true }, kinds := [], alts := [], laidByText := true, laidKinds := [.data, .data, .data, .data, .sentinel, .sentinel, .pinned], laidTests := true, laidLooks := .later }
def FnTreeReadCardSaid : Prop := Claim7.holds Tryd.pinned (.plain (OpenSpec.ofChange fnTreeReadSpec)) fnTreeReadCard

/-- THE SECOND FORM's CARD OF 'laws.FnViewGet'. -/
def fnViewGetUptoCard : Claim7 := { stood := { row := fnViewGetUptoRow, standIns := [], harness := (true, "e1257d35dbe9716a4394aa8a560f255a04cc73055a4777d2dbb730dee20689c1"), looks := true }, kinds := [], alts := [], laidByText := true, laidKinds := [.data, .pinned], laidTests := true, laidLooks := .later }
def FnViewGetUptoCardSaid : Prop := Claim7.holds Tryd.pinned (.plain (OpenSpec.upto fnViewGetSpec)) fnViewGetUptoCard

/-- THE SECOND FORM's CARD OF 'laws.FnTreeRead'. -/
def fnTreeReadUptoCard : Claim7 := { stood := { row := fnTreeReadUptoRow, standIns := [], harness := (true, "e1257d35dbe9716a4394aa8a560f255a04cc73055a4777d2dbb730dee20689c1"), looks := true }, kinds := [], alts := [], laidByText := true, laidKinds := [.data, .data, .data, .data, .sentinel, .sentinel, .pinned], laidTests := true, laidLooks := .later }
def FnTreeReadUptoCardSaid : Prop := Claim7.holds Tryd.pinned (.plain (OpenSpec.upto fnTreeReadSpec)) fnTreeReadUptoCard
end Rows
end Go.Proofs.YtpchbfkiingmjaaDoor
