/-
  DERIVED. GIVEN WITH THE SEED: THE CARDS: each row of YtifomiglajcanaaGreatDoorRows.lean that lists a variable, with what it lists TIED to the program's text (the seventh form; the later family's looks); each row that meets fmt, with fmt's text TOLD by the authors' own Lean function (tested against real Go, not proved from fmt's source: count such statements apart). THE CARD IS WHAT COUNTS. Prove the row's statement (the work); the ties are given (YtifomiglajcanaaGreatDoorTie.lean); close each card by the builder's one call (the guide's Derived/Test/ToyasCard.lean, 'card_holds'). Laid BY PROGRAM, IN A SANDBOX (cutbox-door.mjs). By AI agents, Wed Nov 11 2026. No macro, syntax, notation, axiom, sorry.
-/
import Derived.Test.YtifomiglajcanaaGreatDoorRows
import GoSem.ClaimSeven
namespace Go.Proofs.YtifomiglajcanaaGreatDoor
namespace Rows

/-- THE TIED CARD OF 'laws.FnExactOutcome'. -/
def fnExactOutcomeCard : Claim7 := { stood := { row := fnExactOutcomeRow, standIns := [], harness := (true, "1bd235e04281151351b93e673a5a51bbea9b6b0574881d79b1b7e1057615ae7f"), looks := false }, kinds := [], alts := [], laidByText := true, laidKinds := [.data, .data, .data, .data, .pinned], laidTests := true, laidLooks := .later }
def FnExactOutcomeCardSaid : Prop := Claim7.holds Tryz.pinned (.plain (OpenSpec.ofChange fnExactOutcomeSpec)) fnExactOutcomeCard

/-- THE TIED CARD OF 'laws.FnExactRun'. -/
def fnExactRunCard : Claim7 := { stood := { row := fnExactRunRow, standIns := [], harness := (true, "1bd235e04281151351b93e673a5a51bbea9b6b0574881d79b1b7e1057615ae7f"), looks := false }, kinds := [], alts := [], laidByText := true, laidKinds := [.data, .data, .data, .data, .pinned], laidTests := true, laidLooks := .later }
def FnExactRunCardSaid : Prop := Claim7.holds Tryz.pinned (.plain (OpenSpec.ofChange fnExactRunSpec)) fnExactRunCard

/-- THE TIED CARD OF 'laws.FnFuel'. -/
def fnFuelCard : Claim7 := { stood := { row := fnFuelRow, standIns := [], harness := (true, "1bd235e04281151351b93e673a5a51bbea9b6b0574881d79b1b7e1057615ae7f"), looks := false }, kinds := [], alts := [], laidByText := true, laidKinds := [.data, .data, .data, .data, .pinned], laidTests := true, laidLooks := .later }
def FnFuelCardSaid : Prop := Claim7.holds Tryz.pinned (.plain (OpenSpec.ofChange fnFuelSpec)) fnFuelCard

/-- THE SECOND FORM's CARD OF 'laws.FnExactOutcome'. -/
def fnExactOutcomeUptoCard : Claim7 := { stood := { row := fnExactOutcomeUptoRow, standIns := [], harness := (true, "1bd235e04281151351b93e673a5a51bbea9b6b0574881d79b1b7e1057615ae7f"), looks := false }, kinds := [], alts := [], laidByText := true, laidKinds := [.data, .data, .data, .data, .pinned], laidTests := true, laidLooks := .later }
def FnExactOutcomeUptoCardSaid : Prop := Claim7.holds Tryz.pinned (.plain (OpenSpec.upto fnExactOutcomeSpec)) fnExactOutcomeUptoCard

/-- THE SECOND FORM's CARD OF 'laws.FnExactRun'. -/
def fnExactRunUptoCard : Claim7 := { stood := { row := fnExactRunUptoRow, standIns := [], harness := (true, "1bd235e04281151351b93e673a5a51bbea9b6b0574881d79b1b7e1057615ae7f"), looks := false }, kinds := [], alts := [], laidByText := true, laidKinds := [.data, .data, .data, .data, .pinned], laidTests := true, laidLooks := .later }
def FnExactRunUptoCardSaid : Prop := Claim7.holds Tryz.pinned (.plain (OpenSpec.upto fnExactRunSpec)) fnExactRunUptoCard

/-- THE SECOND FORM's CARD OF 'laws.FnFuel'. -/
def fnFuelUptoCard : Claim7 := { stood := { row := fnFuelUptoRow, standIns := [], harness := (true, "1bd235e04281151351b93e673a5a51bbea9b6b0574881d79b1b7e1057615ae7f"), looks := false }, kinds := [], alts := [], laidByText := true, laidKinds := [.data, .data, .data, .data, .pinned], laidTests := true, laidLooks := .later }
def FnFuelUptoCardSaid : Prop := Claim7.holds Tryz.pinned (.plain (OpenSpec.upto fnFuelSpec)) fnFuelUptoCard
end Rows
end Go.Proofs.YtifomiglajcanaaGreatDoor
