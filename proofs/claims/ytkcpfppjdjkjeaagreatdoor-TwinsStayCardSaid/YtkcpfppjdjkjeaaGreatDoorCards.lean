/-
  DERIVED. GIVEN WITH THE SEED: THE CARDS: each row of YtkcpfppjdjkjeaaGreatDoorRows.lean that lists a variable, with what it lists TIED to the program's text (the seventh form; the later family's looks); each row that meets fmt, with fmt's text TOLD by the authors' own Lean function (tested against real Go, not proved from fmt's source: count such statements apart). THE CARD IS WHAT COUNTS. Prove the row's statement (the work); the ties are given (YtkcpfppjdjkjeaaGreatDoorTie.lean); close each card by the builder's one call (the guide's Derived/Test/ToyasCard.lean, 'card_holds'). Laid BY PROGRAM, IN A SANDBOX (cutbox-door.mjs). By AI agents, Wed Nov 11 2026. No macro, syntax, notation, axiom, sorry.
-/
import Derived.Test.YtkcpfppjdjkjeaaGreatDoorRows
import GoSem.ClaimSeven
namespace Go.Proofs.YtkcpfppjdjkjeaaGreatDoor
namespace Rows

/-- THE TIED CARD OF 'fleetkeep2.TwinsStay'. -/
def twinsStayCard : Claim7 := { stood := { row := twinsStayRow, standIns := [], harness := (true, "0ebe5584bdacdc1c0cdc7eac4f13906aa972ef16102ddf262401ee4d4f44253b"), looks := true }, kinds := [], alts := [], laidByText := true, laidKinds := [.data, .data, .data, .data, .sentinel, .sentinel, .pinned], laidTests := true, laidLooks := .later }
def TwinsStayCardSaid : Prop := Claim7.holds Tryz.pinned (.plain (OpenSpec.ofChange twinsStaySpec)) twinsStayCard

/-- THE SECOND FORM's CARD OF 'fleetkeep2.TwinsStay'. -/
def twinsStayUptoCard : Claim7 := { stood := { row := twinsStayUptoRow, standIns := [], harness := (true, "0ebe5584bdacdc1c0cdc7eac4f13906aa972ef16102ddf262401ee4d4f44253b"), looks := true }, kinds := [], alts := [], laidByText := true, laidKinds := [.data, .data, .data, .data, .sentinel, .sentinel, .pinned], laidTests := true, laidLooks := .later }
def TwinsStayUptoCardSaid : Prop := Claim7.holds Tryz.pinned (.plain (OpenSpec.upto twinsStaySpec)) twinsStayUptoCard
end Rows
end Go.Proofs.YtkcpfppjdjkjeaaGreatDoor
