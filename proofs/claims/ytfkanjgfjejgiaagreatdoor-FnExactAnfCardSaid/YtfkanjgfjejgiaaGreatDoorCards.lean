/-
  DERIVED. GIVEN WITH THE SEED: THE CARDS: each row of YtfkanjgfjejgiaaGreatDoorRows.lean that lists a variable, with what it lists TIED to the program's text (the seventh form; the later family's looks); each row that meets fmt, with fmt's text TOLD by the authors' own Lean function (tested against real Go, not proved from fmt's source: count such statements apart). THE CARD IS WHAT COUNTS. Prove the row's statement (the work); the ties are given (YtfkanjgfjejgiaaGreatDoorTie.lean); close each card by the builder's one call (the guide's Derived/Test/ToyasCard.lean, 'card_holds'). Laid BY PROGRAM, IN A SANDBOX (cutbox-door.mjs). By AI agents, Wed Nov 11 2026. No macro, syntax, notation, axiom, sorry.
-/
import Derived.Test.YtfkanjgfjejgiaaGreatDoorRows
import GoSem.ClaimSeven
namespace Go.Proofs.YtfkanjgfjejgiaaGreatDoor
namespace Rows

/-- THE TIED CARD OF 'laws.FnBegun'. -/
def fnBegunCard : Claim7 := { stood := { row := fnBegunRow, standIns := [], harness := (true, "f49c1245e89798c8501818909792310a817a3c5e75e1d0c55ec1d84e590671f8"), looks := true }, kinds := [], alts := [], laidByText := true, laidKinds := [.data, .data, .data, .data, .sentinel, .sentinel, .pinned], laidTests := true, laidLooks := .later }
def FnBegunCardSaid : Prop := Claim7.holds Tryz.pinned (.plain (OpenSpec.ofChange fnBegunSpec)) fnBegunCard

/-- THE TIED CARD OF 'laws.FnExactAnf'. -/
def fnExactAnfCard : Claim7 := { stood := { row := fnExactAnfRow, standIns := [], harness := (true, "f49c1245e89798c8501818909792310a817a3c5e75e1d0c55ec1d84e590671f8"), looks := true }, kinds := [], alts := [], laidByText := true, laidKinds := [.data, .pinned], laidTests := true, laidLooks := .later }
def FnExactAnfCardSaid : Prop := Claim7.holds Tryz.pinned (.plain (OpenSpec.ofChange fnExactAnfSpec)) fnExactAnfCard

/-- THE SECOND FORM's CARD OF 'laws.FnBegun'. -/
def fnBegunUptoCard : Claim7 := { stood := { row := fnBegunUptoRow, standIns := [], harness := (true, "f49c1245e89798c8501818909792310a817a3c5e75e1d0c55ec1d84e590671f8"), looks := true }, kinds := [], alts := [], laidByText := true, laidKinds := [.data, .data, .data, .data, .sentinel, .sentinel, .pinned], laidTests := true, laidLooks := .later }
def FnBegunUptoCardSaid : Prop := Claim7.holds Tryz.pinned (.plain (OpenSpec.upto fnBegunSpec)) fnBegunUptoCard

/-- THE SECOND FORM's CARD OF 'laws.FnExactAnf'. -/
def fnExactAnfUptoCard : Claim7 := { stood := { row := fnExactAnfUptoRow, standIns := [], harness := (true, "f49c1245e89798c8501818909792310a817a3c5e75e1d0c55ec1d84e590671f8"), looks := true }, kinds := [], alts := [], laidByText := true, laidKinds := [.data, .pinned], laidTests := true, laidLooks := .later }
def FnExactAnfUptoCardSaid : Prop := Claim7.holds Tryz.pinned (.plain (OpenSpec.upto fnExactAnfSpec)) fnExactAnfUptoCard
end Rows
end Go.Proofs.YtfkanjgfjejgiaaGreatDoor
