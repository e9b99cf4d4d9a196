/-
  DERIVED. GIVEN WITH THE SEED: THE CARDS: each row of YtafchokjmboemaaGreatDoorRows.lean that lists a variable, with what it lists TIED to the program's text (the seventh form; the later family's looks); each row that meets fmt, with fmt's text TOLD by the authors' own Lean function (tested against real Go, not proved from fmt's source: count such statements apart). THE CARD IS WHAT COUNTS. Prove the row's statement (the work); the ties are given (YtafchokjmboemaaGreatDoorTie.lean); close each card by the builder's one call (the guide's Derived/Test/ToyasCard.lean, 'card_holds'). Laid BY PROGRAM, IN A SANDBOX (cutbox-door.mjs). By AI agents, Wed Nov 11 2026. No macro, syntax, notation, axiom, sorry.
-/
import Derived.Test.YtafchokjmboemaaGreatDoorRows
import GoSem.ClaimSeven
namespace Go.Proofs.YtafchokjmboemaaGreatDoor
namespace Rows

/-- THE TIED CARD OF 'laws.FnExactSeekAll'. -/
def fnExactSeekAllCard : Claim7 := { stood := { row := fnExactSeekAllRow, standIns := [], harness := (true, "c8888540dd70d582cc93c41be1abc9e7ace5a7a8cafec0fa5a3af89e8e3e81d0"), looks := false }, kinds := [], alts := [], laidByText := true, laidKinds := [.data, .pinned], laidTests := true, laidLooks := .later }
def FnExactSeekAllCardSaid : Prop := Claim7.holds Tryz.pinned (.plain (OpenSpec.ofChange fnExactSeekAllSpec)) fnExactSeekAllCard

/-- THE TIED CARD OF 'laws.FnExactRepoPut'. -/
def fnExactRepoPutCard : Claim7 := { stood := { row := fnExactRepoPutRow, standIns := [], harness := (true, "c8888540dd70d582cc93c41be1abc9e7ace5a7a8cafec0fa5a3af89e8e3e81d0"), looks := false }, kinds := [], alts := [], laidByText := true, laidKinds := [.data, .data, .data, .data, .pinned], laidTests := true, laidLooks := .later }
def FnExactRepoPutCardSaid : Prop := Claim7.holds Tryz.pinned (.plain (OpenSpec.ofChange fnExactRepoPutSpec)) fnExactRepoPutCard

/-- THE TIED CARD OF 'laws.FnExactMarkPut'. -/
def fnExactMarkPutCard : Claim7 := { stood := { row := fnExactMarkPutRow, standIns := [], harness := (true, "c8888540dd70d582cc93c41be1abc9e7ace5a7a8cafec0fa5a3af89e8e3e81d0"), looks := false }, kinds := [], alts := [], laidByText := true, laidKinds := [.data, .pinned], laidTests := true, laidLooks := .later }
def FnExactMarkPutCardSaid : Prop := Claim7.holds Tryz.pinned (.plain (OpenSpec.ofChange fnExactMarkPutSpec)) fnExactMarkPutCard

/-- THE TIED CARD OF 'laws.FnExactMarkNear'. -/
def fnExactMarkNearCard : Claim7 := { stood := { row := fnExactMarkNearRow, standIns := [], harness := (true, "c8888540dd70d582cc93c41be1abc9e7ace5a7a8cafec0fa5a3af89e8e3e81d0"), looks := false }, kinds := [], alts := [], laidByText := true, laidKinds := [.data, .pinned], laidTests := true, laidLooks := .later }
def FnExactMarkNearCardSaid : Prop := Claim7.holds Tryz.pinned (.plain (OpenSpec.ofChange fnExactMarkNearSpec)) fnExactMarkNearCard

/-- THE TIED CARD OF 'laws.FnSeekAll'. -/
def fnSeekAllCard : Claim7 := { stood := { row := fnSeekAllRow, standIns := [], harness := (true, "c8888540dd70d582cc93c41be1abc9e7ace5a7a8cafec0fa5a3af89e8e3e81d0"), looks := false }, kinds := [], alts := [], laidByText := true, laidKinds := [.data, .pinned], laidTests := true, laidLooks := .later }
def FnSeekAllCardSaid : Prop := Claim7.holds Tryz.pinned (.plain (OpenSpec.ofChange fnSeekAllSpec)) fnSeekAllCard

/-- THE SECOND FORM's CARD OF 'laws.FnExactSeekAll'. -/
def fnExactSeekAllUptoCard : Claim7 := { stood := { row := fnExactSeekAllUptoRow, standIns := [], harness := (true, "c8888540dd70d582cc93c41be1abc9e7ace5a7a8cafec0fa5a3af89e8e3e81d0"), looks := false }, kinds := [], alts := [], laidByText := true, laidKinds := [.data, .pinned], laidTests := true, laidLooks := .later }
def FnExactSeekAllUptoCardSaid : Prop := Claim7.holds Tryz.pinned (.plain (OpenSpec.upto fnExactSeekAllSpec)) fnExactSeekAllUptoCard

/-- THE SECOND FORM's CARD OF 'laws.FnExactRepoPut'. -/
def fnExactRepoPutUptoCard : Claim7 := { stood := { row := fnExactRepoPutUptoRow, standIns := [], harness := (true, "c8888540dd70d582cc93c41be1abc9e7ace5a7a8cafec0fa5a3af89e8e3e81d0"), looks := false }, kinds := [], alts := [], laidByText := true, laidKinds := [.data, .data, .data, .data, .pinned], laidTests := true, laidLooks := .later }
def FnExactRepoPutUptoCardSaid : Prop := Claim7.holds Tryz.pinned (.plain (OpenSpec.upto fnExactRepoPutSpec)) fnExactRepoPutUptoCard

/-- THE SECOND FORM's CARD OF 'laws.FnExactMarkPut'. -/
def fnExactMarkPutUptoCard : Claim7 := { stood := { row := fnExactMarkPutUptoRow, standIns := [], harness := (true, "c8888540dd70d582cc93c41be1abc9e7ace5a7a8cafec0fa5a3af89e8e3e81d0"), looks := false }, kinds := [], alts := [], laidByText := true, laidKinds := [.data, .pinned], laidTests := true, laidLooks := .later }
def FnExactMarkPutUptoCardSaid : Prop := Claim7.holds Tryz.pinned (.plain (OpenSpec.upto fnExactMarkPutSpec)) fnExactMarkPutUptoCard

/-- THE SECOND FORM's CARD OF 'laws.FnExactMarkNear'. -/
def fnExactMarkNearUptoCard : Claim7 := { stood := { row := fnExactMarkNearUptoRow, standIns := [], harness := (true, "c8888540dd70d582cc93c41be1abc9e7ace5a7a8cafec0fa5a3af89e8e3e81d0"), looks := false }, kinds := [], alts := [], laidByText := true, laidKinds := [.data, .pinned], laidTests := true, laidLooks := .later }
def FnExactMarkNearUptoCardSaid : Prop := Claim7.holds Tryz.pinned (.plain (OpenSpec.upto fnExactMarkNearSpec)) fnExactMarkNearUptoCard

/-- THE SECOND FORM's CARD OF 'laws.FnSeekAll'. -/
def fnSeekAllUptoCard : Claim7 := { stood := { row := fnSeekAllUptoRow, standIns := [], harness := (true, "c8888540dd70d582cc93c41be1abc9e7ace5a7a8cafec0fa5a3af89e8e3e81d0"), looks := false }, kinds := [], alts := [], laidByText := true, laidKinds := [.data, .pinned], laidTests := true, laidLooks := .later }
def FnSeekAllUptoCardSaid : Prop := Claim7.holds Tryz.pinned (.plain (OpenSpec.upto fnSeekAllSpec)) fnSeekAllUptoCard
end Rows
end Go.Proofs.YtafchokjmboemaaGreatDoor
