/-
  DERIVED. GIVEN WITH THE SEED: THE CARDS: each row of YtlfphndnkgoinaaGreatDoorRows.lean that lists a variable, with what it lists TIED to the program's text (the seventh form; the later family's looks); each row that meets fmt, with fmt's text TOLD by the authors' own Lean function (tested against real Go, not proved from fmt's source: count such statements apart). THE CARD IS WHAT COUNTS. Prove the row's statement (the work); the ties are given (YtlfphndnkgoinaaGreatDoorTie.lean); close each card by the builder's one call (the guide's Derived/Test/ToyasCard.lean, 'card_holds'). Laid BY PROGRAM, IN A SANDBOX (cutbox-door.mjs). By AI agents, Wed Nov 11 2026. No macro, syntax, notation, axiom, sorry.
-/
import Derived.Test.YtlfphndnkgoinaaGreatDoorRows
import GoSem.ClaimSeven
namespace Go.Proofs.YtlfphndnkgoinaaGreatDoor
namespace Rows

/-- THE TIED CARD OF 'fleetkeep1.SimpleRulesFireAtOnce'. -/
def simpleRulesFireAtOnceCard : Claim7 := { stood := { row := simpleRulesFireAtOnceRow, standIns := [], harness := (true, "0d56b5bbe7aa352aa8eb9a65f055e325d2a7fca11b94b9d262a9e1dde1af6127"), looks := false }, kinds := [], alts := [], laidByText := true, laidKinds := [.data, .data, .data, .data, .pinned], laidTests := true, laidLooks := .later }
def SimpleRulesFireAtOnceCardSaid : Prop := Claim7.holds Tryz.pinned (.plain (OpenSpec.ofChange simpleRulesFireAtOnceSpec)) simpleRulesFireAtOnceCard

/-- THE TIED CARD OF 'fleetkeep1.LaterChangesNothing'. -/
def laterChangesNothingCard : Claim7 := { stood := { row := laterChangesNothingRow, standIns := [], harness := (true, "0d56b5bbe7aa352aa8eb9a65f055e325d2a7fca11b94b9d262a9e1dde1af6127"), looks := false }, kinds := [], alts := [], laidByText := true, laidKinds := [.data, .data, .data, .data, .pinned], laidTests := true, laidLooks := .later }
def LaterChangesNothingCardSaid : Prop := Claim7.holds Tryz.pinned (.plain (OpenSpec.ofChange laterChangesNothingSpec)) laterChangesNothingCard

/-- THE TIED CARD OF 'fleetkeep1.TunedRulesAreQuiet'. -/
def tunedRulesAreQuietCard : Claim7 := { stood := { row := tunedRulesAreQuietRow, standIns := [], harness := (true, "0d56b5bbe7aa352aa8eb9a65f055e325d2a7fca11b94b9d262a9e1dde1af6127"), looks := false }, kinds := [], alts := [], laidByText := true, laidKinds := [.data, .data, .data, .data, .pinned], laidTests := true, laidLooks := .later }
def TunedRulesAreQuietCardSaid : Prop := Claim7.holds Tryz.pinned (.plain (OpenSpec.ofChange tunedRulesAreQuietSpec)) tunedRulesAreQuietCard

/-- THE TIED CARD OF 'fleetkeep1.SpellsAreCut'. -/
def spellsAreCutCard : Claim7 := { stood := { row := spellsAreCutRow, standIns := [], harness := (true, "0d56b5bbe7aa352aa8eb9a65f055e325d2a7fca11b94b9d262a9e1dde1af6127"), looks := false }, kinds := [], alts := [], laidByText := true, laidKinds := [.data, .data, .data, .data, .pinned], laidTests := true, laidLooks := .later }
def SpellsAreCutCardSaid : Prop := Claim7.holds Tryz.pinned (.plain (OpenSpec.ofChange spellsAreCutSpec)) spellsAreCutCard

/-- THE SECOND FORM's CARD OF 'fleetkeep1.SimpleRulesFireAtOnce'. -/
def simpleRulesFireAtOnceUptoCard : Claim7 := { stood := { row := simpleRulesFireAtOnceUptoRow, standIns := [], harness := (true, "0d56b5bbe7aa352aa8eb9a65f055e325d2a7fca11b94b9d262a9e1dde1af6127"), looks := false }, kinds := [], alts := [], laidByText := true, laidKinds := [.data, .data, .data, .data, .pinned], laidTests := true, laidLooks := .later }
def SimpleRulesFireAtOnceUptoCardSaid : Prop := Claim7.holds Tryz.pinned (.plain (OpenSpec.upto simpleRulesFireAtOnceSpec)) simpleRulesFireAtOnceUptoCard

/-- THE SECOND FORM's CARD OF 'fleetkeep1.LaterChangesNothing'. -/
def laterChangesNothingUptoCard : Claim7 := { stood := { row := laterChangesNothingUptoRow, standIns := [], harness := (true, "0d56b5bbe7aa352aa8eb9a65f055e325d2a7fca11b94b9d262a9e1dde1af6127"), looks := false }, kinds := [], alts := [], laidByText := true, laidKinds := [.data, .data, .data, .data, .pinned], laidTests := true, laidLooks := .later }
def LaterChangesNothingUptoCardSaid : Prop := Claim7.holds Tryz.pinned (.plain (OpenSpec.upto laterChangesNothingSpec)) laterChangesNothingUptoCard

/-- THE SECOND FORM's CARD OF 'fleetkeep1.TunedRulesAreQuiet'. -/
def tunedRulesAreQuietUptoCard : Claim7 := { stood := { row := tunedRulesAreQuietUptoRow, standIns := [], harness := (true, "0d56b5bbe7aa352aa8eb9a65f055e325d2a7fca11b94b9d262a9e1dde1af6127"), looks := false }, kinds := [], alts := [], laidByText := true, laidKinds := [.data, .data, .data, .data, .pinned], laidTests := true, laidLooks := .later }
def TunedRulesAreQuietUptoCardSaid : Prop := Claim7.holds Tryz.pinned (.plain (OpenSpec.upto tunedRulesAreQuietSpec)) tunedRulesAreQuietUptoCard

/-- THE SECOND FORM's CARD OF 'fleetkeep1.SpellsAreCut'. -/
def spellsAreCutUptoCard : Claim7 := { stood := { row := spellsAreCutUptoRow, standIns := [], harness := (true, "0d56b5bbe7aa352aa8eb9a65f055e325d2a7fca11b94b9d262a9e1dde1af6127"), looks := false }, kinds := [], alts := [], laidByText := true, laidKinds := [.data, .data, .data, .data, .pinned], laidTests := true, laidLooks := .later }
def SpellsAreCutUptoCardSaid : Prop := Claim7.holds Tryz.pinned (.plain (OpenSpec.upto spellsAreCutSpec)) spellsAreCutUptoCard
end Rows
end Go.Proofs.YtlfphndnkgoinaaGreatDoor
