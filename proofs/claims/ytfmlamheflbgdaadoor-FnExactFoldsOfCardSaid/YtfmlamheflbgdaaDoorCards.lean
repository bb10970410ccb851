/-
  DERIVED. GIVEN WITH THE SEED: THE CARDS: each row of YtfmlamheflbgdaaDoorRows.lean that lists a variable, with what it lists TIED to the program's text (the seventh form; the later family's looks); each row that meets fmt, with fmt's text TOLD by the authors' own Lean function (tested against real Go, not proved from fmt's source: count such statements apart). THE CARD IS WHAT COUNTS. Prove the row's statement (the work); the ties are given (YtfmlamheflbgdaaDoorTie.lean); close each card by the builder's one call (the guide's Derived/Test/ToyasCard.lean, 'card_holds'). Laid BY PROGRAM, IN A SANDBOX (cutbox-door.mjs). By AI agents, Wed Nov 11 2026. No macro, syntax, notation, axiom, sorry.
-/
import Derived.Test.YtfmlamheflbgdaaDoorRows
import GoSem.ClaimSeven
namespace Go.Proofs.YtfmlamheflbgdaaDoor
namespace Rows

/-- THE TIED CARD OF 'laws.FnExactAnfOk'. -/
def fnExactAnfOkCard : Claim7 := { stood := { row := fnExactAnfOkRow, standIns := [], harness := (true, "937d27e24ec80ccb0dd8c144592c86683d23ac28be45bfbbb2c4386573d88dab"), looks := false }, kinds := [], alts := [], laidByText := true, laidKinds := [.data, .pinned], laidTests := true, laidLooks := .later }
def FnExactAnfOkCardSaid : Prop := Claim7.holds Tryd.pinned (.plain (OpenSpec.ofChange fnExactAnfOkSpec)) fnExactAnfOkCard

/-- THE TIED CARD OF 'laws.FnExactHomeOf'. -/
def fnExactHomeOfCard : Claim7 := { stood := { row := fnExactHomeOfRow, standIns := [], harness := (true, "937d27e24ec80ccb0dd8c144592c86683d23ac28be45bfbbb2c4386573d88dab"), looks := false }, kinds := [], alts := [], laidByText := true, laidKinds := [.data, .pinned], laidTests := true, laidLooks := .later }
def FnExactHomeOfCardSaid : Prop := Claim7.holds Tryd.pinned (.plain (OpenSpec.ofChange fnExactHomeOfSpec)) fnExactHomeOfCard

/-- THE TIED CARD OF 'laws.FnExactCallsOf'. -/
def fnExactCallsOfCard : Claim7 := { stood := { row := fnExactCallsOfRow, standIns := [], harness := (true, "937d27e24ec80ccb0dd8c144592c86683d23ac28be45bfbbb2c4386573d88dab"), looks := false }, kinds := [], alts := [], laidByText := true, laidKinds := [.data, .pinned], laidTests := true, laidLooks := .later }
def FnExactCallsOfCardSaid : Prop := Claim7.holds Tryd.pinned (.plain (OpenSpec.ofChange fnExactCallsOfSpec)) fnExactCallsOfCard

/-- THE TIED CARD OF 'laws.FnExactLambdasOf'. -/
def fnExactLambdasOfCard : Claim7 := { stood := { row := fnExactLambdasOfRow, standIns := [], harness := (true, "937d27e24ec80ccb0dd8c144592c86683d23ac28be45bfbbb2c4386573d88dab"), looks := false }, kinds := [], alts := [], laidByText := true, laidKinds := [.data, .pinned], laidTests := true, laidLooks := .later }
def FnExactLambdasOfCardSaid : Prop := Claim7.holds Tryd.pinned (.plain (OpenSpec.ofChange fnExactLambdasOfSpec)) fnExactLambdasOfCard

/-- THE TIED CARD OF 'laws.FnExactSeed'. -/
def fnExactSeedCard : Claim7 := { stood := { row := fnExactSeedRow, standIns := [], harness := (true, "937d27e24ec80ccb0dd8c144592c86683d23ac28be45bfbbb2c4386573d88dab"), looks := false }, kinds := [], alts := [], laidByText := true, laidKinds := [.data, .pinned], laidTests := true, laidLooks := .later }
def FnExactSeedCardSaid : Prop := Claim7.holds Tryd.pinned (.plain (OpenSpec.ofChange fnExactSeedSpec)) fnExactSeedCard

/-- THE TIED CARD OF 'laws.FnExactFoldsOf'. -/
def fnExactFoldsOfCard : Claim7 := { stood := { row := fnExactFoldsOfRow, standIns := [], harness := (true, "937d27e24ec80ccb0dd8c144592c86683d23ac28be45bfbbb2c4386573d88dab"), looks := false }, kinds := [], alts := [], laidByText := true, laidKinds := [.data, .pinned], laidTests := true, laidLooks := .later }
def FnExactFoldsOfCardSaid : Prop := Claim7.holds Tryd.pinned (.plain (OpenSpec.ofChange fnExactFoldsOfSpec)) fnExactFoldsOfCard

/-- THE TIED CARD OF 'laws.FnExactFold'. -/
def fnExactFoldCard : Claim7 := { stood := { row := fnExactFoldRow, standIns := [], harness := (true, "937d27e24ec80ccb0dd8c144592c86683d23ac28be45bfbbb2c4386573d88dab"), looks := false }, kinds := [], alts := [], laidByText := true, laidKinds := [.data, .pinned], laidTests := true, laidLooks := .later }
def FnExactFoldCardSaid : Prop := Claim7.holds Tryd.pinned (.plain (OpenSpec.ofChange fnExactFoldSpec)) fnExactFoldCard

/-- THE TIED CARD OF 'laws.FnExactOuterOf'. -/
def fnExactOuterOfCard : Claim7 := { stood := { row := fnExactOuterOfRow, standIns := [], harness := (true, "937d27e24ec80ccb0dd8c144592c86683d23ac28be45bfbbb2c4386573d88dab"), looks := false }, kinds := [], alts := [], laidByText := true, laidKinds := [.data, .pinned], laidTests := true, laidLooks := .later }
def FnExactOuterOfCardSaid : Prop := Claim7.holds Tryd.pinned (.plain (OpenSpec.ofChange fnExactOuterOfSpec)) fnExactOuterOfCard

/-- THE TIED CARD OF 'laws.FnExactFlowOk'. -/
def fnExactFlowOkCard : Claim7 := { stood := { row := fnExactFlowOkRow, standIns := [], harness := (true, "937d27e24ec80ccb0dd8c144592c86683d23ac28be45bfbbb2c4386573d88dab"), looks := false }, kinds := [], alts := [], laidByText := true, laidKinds := [.data, .pinned], laidTests := true, laidLooks := .later }
def FnExactFlowOkCardSaid : Prop := Claim7.holds Tryd.pinned (.plain (OpenSpec.ofChange fnExactFlowOkSpec)) fnExactFlowOkCard

/-- THE TIED CARD OF 'laws.FnNodes'. -/
def fnNodesCard : Claim7 := { stood := { row := fnNodesRow, standIns := [], harness := (true, "937d27e24ec80ccb0dd8c144592c86683d23ac28be45bfbbb2c4386573d88dab"), looks := false }, kinds := [], alts := [], laidByText := true, laidKinds := [.data, .data, .data, .data, .pinned], laidTests := true, laidLooks := .later }
def FnNodesCardSaid : Prop := Claim7.holds Tryd.pinned (.plain (OpenSpec.ofChange fnNodesSpec)) fnNodesCard

/-- THE TIED CARD OF 'laws.FnOuter'. -/
def fnOuterCard : Claim7 := { stood := { row := fnOuterRow, standIns := [], harness := (true, "937d27e24ec80ccb0dd8c144592c86683d23ac28be45bfbbb2c4386573d88dab"), looks := false }, kinds := [], alts := [], laidByText := true, laidKinds := [.data, .pinned], laidTests := true, laidLooks := .later }
def FnOuterCardSaid : Prop := Claim7.holds Tryd.pinned (.plain (OpenSpec.ofChange fnOuterSpec)) fnOuterCard

/-- THE SECOND FORM's CARD OF 'laws.FnExactAnfOk'. -/
def fnExactAnfOkUptoCard : Claim7 := { stood := { row := fnExactAnfOkUptoRow, standIns := [], harness := (true, "937d27e24ec80ccb0dd8c144592c86683d23ac28be45bfbbb2c4386573d88dab"), looks := false }, kinds := [], alts := [], laidByText := true, laidKinds := [.data, .pinned], laidTests := true, laidLooks := .later }
def FnExactAnfOkUptoCardSaid : Prop := Claim7.holds Tryd.pinned (.plain (OpenSpec.upto fnExactAnfOkSpec)) fnExactAnfOkUptoCard

/-- THE SECOND FORM's CARD OF 'laws.FnExactHomeOf'. -/
def fnExactHomeOfUptoCard : Claim7 := { stood := { row := fnExactHomeOfUptoRow, standIns := [], harness := (true, "937d27e24ec80ccb0dd8c144592c86683d23ac28be45bfbbb2c4386573d88dab"), looks := false }, kinds := [], alts := [], laidByText := true, laidKinds := [.data, .pinned], laidTests := true, laidLooks := .later }
def FnExactHomeOfUptoCardSaid : Prop := Claim7.holds Tryd.pinned (.plain (OpenSpec.upto fnExactHomeOfSpec)) fnExactHomeOfUptoCard

/-- THE SECOND FORM's CARD OF 'laws.FnExactCallsOf'. -/
def fnExactCallsOfUptoCard : Claim7 := { stood := { row := fnExactCallsOfUptoRow, standIns := [], harness := (true, "937d27e24ec80ccb0dd8c144592c86683d23ac28be45bfbbb2c4386573d88dab"), looks := false }, kinds := [], alts := [], laidByText := true, laidKinds := [.data, .pinned], laidTests := true, laidLooks := .later }
def FnExactCallsOfUptoCardSaid : Prop := Claim7.holds Tryd.pinned (.plain (OpenSpec.upto fnExactCallsOfSpec)) fnExactCallsOfUptoCard

/-- THE SECOND FORM's CARD OF 'laws.FnExactLambdasOf'. -/
def fnExactLambdasOfUptoCard : Claim7 := { stood := { row := fnExactLambdasOfUptoRow, standIns := [], harness := (true, "937d27e24ec80ccb0dd8c144592c86683d23ac28be45bfbbb2c4386573d88dab"), looks := false }, kinds := [], alts := [], laidByText := true, laidKinds := [.data, .pinned], laidTests := true, laidLooks := .later }
def FnExactLambdasOfUptoCardSaid : Prop := Claim7.holds Tryd.pinned (.plain (OpenSpec.upto fnExactLambdasOfSpec)) fnExactLambdasOfUptoCard

/-- THE SECOND FORM's CARD OF 'laws.FnExactSeed'. -/
def fnExactSeedUptoCard : Claim7 := { stood := { row := fnExactSeedUptoRow, standIns := [], harness := (true, "937d27e24ec80ccb0dd8c144592c86683d23ac28be45bfbbb2c4386573d88dab"), looks := false }, kinds := [], alts := [], laidByText := true, laidKinds := [.data, .pinned], laidTests := true, laidLooks := .later }
def FnExactSeedUptoCardSaid : Prop := Claim7.holds Tryd.pinned (.plain (OpenSpec.upto fnExactSeedSpec)) fnExactSeedUptoCard

/-- THE SECOND FORM's CARD OF 'laws.FnExactFoldsOf'. -/
def fnExactFoldsOfUptoCard : Claim7 := { stood := { row := fnExactFoldsOfUptoRow, standIns := [], harness := (true, "937d27e24ec80ccb0dd8c144592c86683d23ac28be45bfbbb2c4386573d88dab"), looks := false }, kinds := [], alts := [], laidByText := true, laidKinds := [.data, .pinned], laidTests := true, laidLooks := .later }
def FnExactFoldsOfUptoCardSaid : Prop := Claim7.holds Tryd.pinned (.plain (OpenSpec.upto fnExactFoldsOfSpec)) fnExactFoldsOfUptoCard

/-- THE SECOND FORM's CARD OF 'laws.FnExactFold'. -/
def fnExactFoldUptoCard : Claim7 := { stood := { row := fnExactFoldUptoRow, standIns := [], harness := (true, "937d27e24ec80ccb0dd8c144592c86683d23ac28be45bfbbb2c4386573d88dab"), looks := false }, kinds := [], alts := [], laidByText := true, laidKinds := [.data, .pinned], laidTests := true, laidLooks := .later }
def FnExactFoldUptoCardSaid : Prop := Claim7.holds Tryd.pinned (.plain (OpenSpec.upto fnExactFoldSpec)) fnExactFoldUptoCard

/-- THE SECOND FORM's CARD OF 'laws.FnExactOuterOf'. -/
def fnExactOuterOfUptoCard : Claim7 := { stood := { row := fnExactOuterOfUptoRow, standIns := [], harness := (true, "937d27e24ec80ccb0dd8c144592c86683d23ac28be45bfbbb2c4386573d88dab"), looks := false }, kinds := [], alts := [], laidByText := true, laidKinds := [.data, .pinned], laidTests := true, laidLooks := .later }
def FnExactOuterOfUptoCardSaid : Prop := Claim7.holds Tryd.pinned (.plain (OpenSpec.upto fnExactOuterOfSpec)) fnExactOuterOfUptoCard

/-- THE SECOND FORM's CARD OF 'laws.FnExactFlowOk'. -/
def fnExactFlowOkUptoCard : Claim7 := { stood := { row := fnExactFlowOkUptoRow, standIns := [], harness := (true, "937d27e24ec80ccb0dd8c144592c86683d23ac28be45bfbbb2c4386573d88dab"), looks := false }, kinds := [], alts := [], laidByText := true, laidKinds := [.data, .pinned], laidTests := true, laidLooks := .later }
def FnExactFlowOkUptoCardSaid : Prop := Claim7.holds Tryd.pinned (.plain (OpenSpec.upto fnExactFlowOkSpec)) fnExactFlowOkUptoCard

/-- THE SECOND FORM's CARD OF 'laws.FnNodes'. -/
def fnNodesUptoCard : Claim7 := { stood := { row := fnNodesUptoRow, standIns := [], harness := (true, "937d27e24ec80ccb0dd8c144592c86683d23ac28be45bfbbb2c4386573d88dab"), looks := false }, kinds := [], alts := [], laidByText := true, laidKinds := [.data, .data, .data, .data, .pinned], laidTests := true, laidLooks := .later }
def FnNodesUptoCardSaid : Prop := Claim7.holds Tryd.pinned (.plain (OpenSpec.upto fnNodesSpec)) fnNodesUptoCard

/-- THE SECOND FORM's CARD OF 'laws.FnOuter'. -/
def fnOuterUptoCard : Claim7 := { stood := { row := fnOuterUptoRow, standIns := [], harness := (true, "937d27e24ec80ccb0dd8c144592c86683d23ac28be45bfbbb2c4386573d88dab"), looks := false }, kinds := [], alts := [], laidByText := true, laidKinds := [.data, .pinned], laidTests := true, laidLooks := .later }
def FnOuterUptoCardSaid : Prop := Claim7.holds Tryd.pinned (.plain (OpenSpec.upto fnOuterSpec)) fnOuterUptoCard
end Rows
end Go.Proofs.YtfmlamheflbgdaaDoor
