/-
  DERIVED. GIVEN WITH THE SEED: THE CARDS: each row of YtgdnedhcbjonkaaGreatDoorRows.lean that lists a variable, with what it lists TIED to the program's text (the seventh form; the later family's looks); each row that meets fmt, with fmt's text TOLD by the authors' own Lean function (tested against real Go, not proved from fmt's source: count such statements apart). THE CARD IS WHAT COUNTS. Prove the row's statement (the work); the ties are given (YtgdnedhcbjonkaaGreatDoorTie.lean); close each card by the builder's one call (the guide's Derived/Test/ToyasCard.lean, 'card_holds'). Laid BY PROGRAM, IN A SANDBOX (cutbox-door.mjs). By AI agents, Wed Nov 11 2026. No macro, syntax, notation, axiom, sorry.
-/
import Derived.Test.YtgdnedhcbjonkaaGreatDoorRows
import GoSem.ClaimSeven
namespace Go.Proofs.YtgdnedhcbjonkaaGreatDoor
namespace Rows

/-- THE TIED CARD OF 'fleetkeep1.AlarmsStay'. -/
def alarmsStayCard : Claim7 := { stood := { row := alarmsStayRow, standIns := [], harness := (true, "65a3d53b4f2bb10fc5976b89b073068bc9dd79444521ed551fee11068edfc374"), looks := false }, kinds := [], alts := [], laidByText := true, laidKinds := [.data, .data, .data, .data, .pinned], laidTests := true, laidLooks := .later }
def AlarmsStayCardSaid : Prop := Claim7.holds Tryz.pinned (.plain (OpenSpec.ofChange alarmsStaySpec)) alarmsStayCard

/-- THE SECOND FORM's CARD OF 'fleetkeep1.AlarmsStay'. -/
def alarmsStayUptoCard : Claim7 := { stood := { row := alarmsStayUptoRow, standIns := [], harness := (true, "65a3d53b4f2bb10fc5976b89b073068bc9dd79444521ed551fee11068edfc374"), looks := false }, kinds := [], alts := [], laidByText := true, laidKinds := [.data, .data, .data, .data, .pinned], laidTests := true, laidLooks := .later }
def AlarmsStayUptoCardSaid : Prop := Claim7.holds Tryz.pinned (.plain (OpenSpec.upto alarmsStaySpec)) alarmsStayUptoCard
end Rows
end Go.Proofs.YtgdnedhcbjonkaaGreatDoor
