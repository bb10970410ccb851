/-
  DERIVED. GIVEN WITH THE SEED: THE CARDS: each row of YtfkanjgfjejgiaaDoorRows.lean that lists a variable, with what it lists TIED to the program's text (the seventh form; the later family's looks); each row that meets fmt, with fmt's text TOLD by the authors' own Lean function (tested against real Go, not proved from fmt's source: count such statements apart). THE CARD IS WHAT COUNTS. Prove the row's statement (the work); the ties are given (YtfkanjgfjejgiaaDoorTie.lean); close each card by the builder's one call (the guide's Derived/Test/ToyasCard.lean, 'card_holds'). Laid BY PROGRAM, IN A SANDBOX (cutbox-door.mjs). By AI agents, Wed Nov 11 2026. No macro, syntax, notation, axiom, sorry.
-/
import Derived.Test.YtfkanjgfjejgiaaDoorRows
import GoSem.ClaimSeven
namespace Go.Proofs.YtfkanjgfjejgiaaDoor
namespace Rows

/-- THE TIED CARD OF 'laws.FnNodes'. -/
def fnNodesCard : Claim7 := { stood := { row := fnNodesRow, standIns := [], harness := (true, "8fd1590e58c0b7f46ffb64e3cdba531ecd8bef3b38503976e34613af2fd8f5f5"), looks := true }, kinds := [], alts := [], laidByText := true, laidKinds := [.data, .data, .data, .data, .pinned], laidTests := true, laidLooks := .later }
def FnNodesCardSaid : Prop := Claim7.holds Tryd.pinned (.plain (OpenSpec.ofChange fnNodesSpec)) fnNodesCard

/-- THE TIED CARD OF 'laws.FnOuter'. -/
def fnOuterCard : Claim7 := { stood := { row := fnOuterRow, standIns := [], harness := (true, "8fd1590e58c0b7f46ffb64e3cdba531ecd8bef3b38503976e34613af2fd8f5f5"), looks := true }, kinds := [], alts := [], laidByText := true, laidKinds := [.data, .pinned], laidTests := true, laidLooks := .later }
def FnOuterCardSaid : Prop := Claim7.holds Tryd.pinned (.plain (OpenSpec.ofChange fnOuterSpec)) fnOuterCard

/-- THE TIED CARD OF 'laws.FnExactParses'. -/
def fnExactParsesCard : Claim7 := { stood := { row := fnExactParsesRow, standIns := [], harness := (true, "8fd1590e58c0b7f46ffb64e3cdba531ecd8bef3b38503976e34613af2fd8f5f5"), looks := true }, kinds := [], alts := [], laidByText := true, laidKinds := [.data, .data, .data, .data, .sentinel, .sentinel, .pinned], laidTests := true, laidLooks := .later }
def FnExactParsesCardSaid : Prop := Claim7.holds Tryd.pinned (.plain (OpenSpec.ofChange fnExactParsesSpec)) fnExactParsesCard

/-- THE TIED CARD OF 'laws.FnExactParse'. -/
def fnExactParseCard : Claim7 := { stood := { row := fnExactParseRow, standIns := [], harness := (true, "8fd1590e58c0b7f46ffb64e3cdba531ecd8bef3b38503976e34613af2fd8f5f5"), looks := true }, kinds := [], alts := [], laidByText := true, laidKinds := [.data, .data, .data, .data, .sentinel, .sentinel, .pinned], laidTests := true, laidLooks := .later }
def FnExactParseCardSaid : Prop := Claim7.holds Tryd.pinned (.plain (OpenSpec.ofChange fnExactParseSpec)) fnExactParseCard

/-- THE SECOND FORM's CARD OF 'laws.FnNodes'. -/
def fnNodesUptoCard : Claim7 := { stood := { row := fnNodesUptoRow, standIns := [], harness := (true, "8fd1590e58c0b7f46ffb64e3cdba531ecd8bef3b38503976e34613af2fd8f5f5"), looks := true }, kinds := [], alts := [], laidByText := true, laidKinds := [.data, .data, .data, .data, .pinned], laidTests := true, laidLooks := .later }
def FnNodesUptoCardSaid : Prop := Claim7.holds Tryd.pinned (.plain (OpenSpec.upto fnNodesSpec)) fnNodesUptoCard

/-- THE SECOND FORM's CARD OF 'laws.FnOuter'. -/
def fnOuterUptoCard : Claim7 := { stood := { row := fnOuterUptoRow, standIns := [], harness := (true, "8fd1590e58c0b7f46ffb64e3cdba531ecd8bef3b38503976e34613af2fd8f5f5"), looks := true }, kinds := [], alts := [], laidByText := true, laidKinds := [.data, .pinned], laidTests := true, laidLooks := .later }
def FnOuterUptoCardSaid : Prop := Claim7.holds Tryd.pinned (.plain (OpenSpec.upto fnOuterSpec)) fnOuterUptoCard

/-- THE SECOND FORM's CARD OF 'laws.FnExactParses'. -/
def fnExactParsesUptoCard : Claim7 := { stood := { row := fnExactParsesUptoRow, standIns := [], harness := (true, "8fd1590e58c0b7f46ffb64e3cdba531ecd8bef3b38503976e34613af2fd8f5f5"), looks := true }, kinds := [], alts := [], laidByText := true, laidKinds := [.data, .data, .data, .data, .sentinel, .sentinel, .pinned], laidTests := true, laidLooks := .later }
def FnExactParsesUptoCardSaid : Prop := Claim7.holds Tryd.pinned (.plain (OpenSpec.upto fnExactParsesSpec)) fnExactParsesUptoCard

/-- THE SECOND FORM's CARD OF 'laws.FnExactParse'. -/
def fnExactParseUptoCard : Claim7 := { stood := { row := fnExactParseUptoRow, standIns := [], harness := (true, "8fd1590e58c0b7f46ffb64e3cdba531ecd8bef3b38503976e34613af2fd8f5f5"), looks := true }, kinds := [], alts := [], laidByText := true, laidKinds := [.data, .data, .data, .data, .sentinel, .sentinel, .pinned], laidTests := true, laidLooks := .later }
def FnExactParseUptoCardSaid : Prop := Claim7.holds Tryd.pinned (.plain (OpenSpec.upto fnExactParseSpec)) fnExactParseUptoCard
end Rows
end Go.Proofs.YtfkanjgfjejgiaaDoor
