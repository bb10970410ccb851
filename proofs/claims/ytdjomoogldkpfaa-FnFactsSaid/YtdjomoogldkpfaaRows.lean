/-
  No cell of these rows narrows 'for every input' (looked for: loops, veiled, ifaces, maps, wideKeys, modest, calm, conditions, laid).
  DERIVED. THE GIVEN ROWS OF THIS SEAT. 12 by the template 'for every input the law returns true; each argument reads behind the call as it read before'; 0 by the template 'total and deterministic' (their statements: YtdjomoogldkpfaaTotals.lean).
  GIVEN WITH THE SEED: the statements are not yours to turn. If you find one false, say at which input.
  Laid BY PROGRAM, IN A SANDBOX (cutbox-rows.mjs): the forced cells as the released guide's own fill.sh prints them over the translation 4a2b313b74b45911… (all of the seat's roots in one cut). By AI agents, Wed Nov 11 2026. No macro, syntax, notation, axiom, sorry.
-/
import Derived.Test.YtdjomoogldkpfaaChecked
import GoSem.Claim
import GoSem.ClaimJoined
import GoSem.ClaimMapViews
import Derived.JoinedTies
import Derived.KernelRfl
namespace Go.Proofs.Ytdjomoogldkpfaa
/- THE CELL 'sum', in the pinned program and in every row, IS THE sha256 OF THE DUMP (.gsa) THAT YtdjomoogldkpfaaProg.lean LOADS. Nothing in Lean hashes anything: it is a label: what it is worth is what the hold of that sum in a sandbox is worth. -/
noncomputable def Try.pinned : Pinned := { name := "ytdjomoogldkpfaa", sum := "4a2b313b74b45911885e23a19e854dbe4f92bbd66d6c37c2153992dcd2af8148", checked := Try.checked }
namespace Rows
def none {H : Type} : Left H := { results := [], args := [] }

/-- 'laws.FnExactCtxPush': WHATEVER THE INPUT: true; the input reads as it did. -/
def fnExactCtxPushSpec : ChangeSpec := { name := "fnExactCtxPush", fn := fun _ => fun
  | [d1, d2, d3] => { results := [.lit (.bool true)], args := [d1, d2, d3] }
  | _ => none }
def fnExactCtxPushRow : OpenClaim := { program := "ytdjomoogldkpfaa", sum := "4a2b313b74b45911885e23a19e854dbe4f92bbd66d6c37c2153992dcd2af8148", func := "loop.example/g01292/laws.FnExactCtxPush", spec := "fnExactCtxPush", apart := false }
def FnExactCtxPushSaid : Prop := fnExactCtxPushRow.holds Try.pinned (OpenSpec.ofChange fnExactCtxPushSpec)

/-- ITS FALSE NEIGHBOUR: 'it returns false'. Refute it at one input. -/
def fnExactCtxPushWrong : ChangeSpec := { name := "fnExactCtxPush", fn := fun _ => fun
  | [d1, d2, d3] => { results := [.lit (.bool false)], args := [d1, d2, d3] }
  | _ => none }
def FnExactCtxPushWrongFalsely : Prop := fnExactCtxPushRow.holds Try.pinned (OpenSpec.ofChange fnExactCtxPushWrong)

/-- 'laws.FnExactIsAtom': WHATEVER THE INPUT: true; the input reads as it did. -/
def fnExactIsAtomSpec : ChangeSpec := { name := "fnExactIsAtom", fn := fun _ => fun
  | [d] => { results := [.lit (.bool true)], args := [d] }
  | _ => none }
def fnExactIsAtomRow : OpenClaim := { program := "ytdjomoogldkpfaa", sum := "4a2b313b74b45911885e23a19e854dbe4f92bbd66d6c37c2153992dcd2af8148", func := "loop.example/g01292/laws.FnExactIsAtom", spec := "fnExactIsAtom", apart := false }
def FnExactIsAtomSaid : Prop := fnExactIsAtomRow.holds Try.pinned (OpenSpec.ofChange fnExactIsAtomSpec)

/-- ITS FALSE NEIGHBOUR: 'it returns false'. Refute it at one input. -/
def fnExactIsAtomWrong : ChangeSpec := { name := "fnExactIsAtom", fn := fun _ => fun
  | [d] => { results := [.lit (.bool false)], args := [d] }
  | _ => none }
def FnExactIsAtomWrongFalsely : Prop := fnExactIsAtomRow.holds Try.pinned (OpenSpec.ofChange fnExactIsAtomWrong)

/-- 'laws.FnExactCtxSites': WHATEVER THE INPUT: true; the input reads as it did. -/
def fnExactCtxSitesSpec : ChangeSpec := { name := "fnExactCtxSites", fn := fun _ => fun
  | [d] => { results := [.lit (.bool true)], args := [d] }
  | _ => none }
def fnExactCtxSitesRow : OpenClaim := { program := "ytdjomoogldkpfaa", sum := "4a2b313b74b45911885e23a19e854dbe4f92bbd66d6c37c2153992dcd2af8148", func := "loop.example/g01292/laws.FnExactCtxSites", spec := "fnExactCtxSites", apart := false }
def FnExactCtxSitesSaid : Prop := fnExactCtxSitesRow.holds Try.pinned (OpenSpec.ofChange fnExactCtxSitesSpec)

/-- ITS FALSE NEIGHBOUR: 'it returns false'. Refute it at one input. -/
def fnExactCtxSitesWrong : ChangeSpec := { name := "fnExactCtxSites", fn := fun _ => fun
  | [d] => { results := [.lit (.bool false)], args := [d] }
  | _ => none }
def FnExactCtxSitesWrongFalsely : Prop := fnExactCtxSitesRow.holds Try.pinned (OpenSpec.ofChange fnExactCtxSitesWrong)

/-- 'laws.FnExactFactLess': WHATEVER THE INPUT: true; the input reads as it did. -/
def fnExactFactLessSpec : ChangeSpec := { name := "fnExactFactLess", fn := fun _ => fun
  | [d1, d2] => { results := [.lit (.bool true)], args := [d1, d2] }
  | _ => none }
def fnExactFactLessRow : OpenClaim := { program := "ytdjomoogldkpfaa", sum := "4a2b313b74b45911885e23a19e854dbe4f92bbd66d6c37c2153992dcd2af8148", func := "loop.example/g01292/laws.FnExactFactLess", spec := "fnExactFactLess", apart := false }
def FnExactFactLessSaid : Prop := fnExactFactLessRow.holds Try.pinned (OpenSpec.ofChange fnExactFactLessSpec)

/-- ITS FALSE NEIGHBOUR: 'it returns false'. Refute it at one input. -/
def fnExactFactLessWrong : ChangeSpec := { name := "fnExactFactLess", fn := fun _ => fun
  | [d1, d2] => { results := [.lit (.bool false)], args := [d1, d2] }
  | _ => none }
def FnExactFactLessWrongFalsely : Prop := fnExactFactLessRow.holds Try.pinned (OpenSpec.ofChange fnExactFactLessWrong)

/-- 'laws.FnContexts': WHATEVER THE INPUT: true; the input reads as it did. -/
def fnContextsSpec : ChangeSpec := { name := "fnContexts", fn := fun _ => fun
  | [d] => { results := [.lit (.bool true)], args := [d] }
  | _ => none }
def fnContextsRow : OpenClaim := { program := "ytdjomoogldkpfaa", sum := "4a2b313b74b45911885e23a19e854dbe4f92bbd66d6c37c2153992dcd2af8148", func := "loop.example/g01292/laws.FnContexts", spec := "fnContexts", apart := false }
def FnContextsSaid : Prop := fnContextsRow.holds Try.pinned (OpenSpec.ofChange fnContextsSpec)

/-- ITS FALSE NEIGHBOUR: 'it returns false'. Refute it at one input. -/
def fnContextsWrong : ChangeSpec := { name := "fnContexts", fn := fun _ => fun
  | [d] => { results := [.lit (.bool false)], args := [d] }
  | _ => none }
def FnContextsWrongFalsely : Prop := fnContextsRow.holds Try.pinned (OpenSpec.ofChange fnContextsWrong)

/-- 'laws.FnExactSameFacts': WHATEVER THE INPUT: true; the input reads as it did. -/
def fnExactSameFactsSpec : ChangeSpec := { name := "fnExactSameFacts", fn := fun _ => fun
  | [d1, d2] => { results := [.lit (.bool true)], args := [d1, d2] }
  | _ => none }
def fnExactSameFactsRow : OpenClaim := { program := "ytdjomoogldkpfaa", sum := "4a2b313b74b45911885e23a19e854dbe4f92bbd66d6c37c2153992dcd2af8148", func := "loop.example/g01292/laws.FnExactSameFacts", spec := "fnExactSameFacts", apart := false }
def FnExactSameFactsSaid : Prop := fnExactSameFactsRow.holds Try.pinned (OpenSpec.ofChange fnExactSameFactsSpec)

/-- ITS FALSE NEIGHBOUR: 'it returns false'. Refute it at one input. -/
def fnExactSameFactsWrong : ChangeSpec := { name := "fnExactSameFacts", fn := fun _ => fun
  | [d1, d2] => { results := [.lit (.bool false)], args := [d1, d2] }
  | _ => none }
def FnExactSameFactsWrongFalsely : Prop := fnExactSameFactsRow.holds Try.pinned (OpenSpec.ofChange fnExactSameFactsWrong)

/-- 'laws.FnExactFactsOk': WHATEVER THE INPUT: true; the input reads as it did. -/
def fnExactFactsOkSpec : ChangeSpec := { name := "fnExactFactsOk", fn := fun _ => fun
  | [d] => { results := [.lit (.bool true)], args := [d] }
  | _ => none }
def fnExactFactsOkRow : OpenClaim := { program := "ytdjomoogldkpfaa", sum := "4a2b313b74b45911885e23a19e854dbe4f92bbd66d6c37c2153992dcd2af8148", func := "loop.example/g01292/laws.FnExactFactsOk", spec := "fnExactFactsOk", apart := false }
def FnExactFactsOkSaid : Prop := fnExactFactsOkRow.holds Try.pinned (OpenSpec.ofChange fnExactFactsOkSpec)

/-- ITS FALSE NEIGHBOUR: 'it returns false'. Refute it at one input. -/
def fnExactFactsOkWrong : ChangeSpec := { name := "fnExactFactsOk", fn := fun _ => fun
  | [d] => { results := [.lit (.bool false)], args := [d] }
  | _ => none }
def FnExactFactsOkWrongFalsely : Prop := fnExactFactsOkRow.holds Try.pinned (OpenSpec.ofChange fnExactFactsOkWrong)

/-- 'laws.FnExactFactHas': WHATEVER THE INPUT: true; the input reads as it did. -/
def fnExactFactHasSpec : ChangeSpec := { name := "fnExactFactHas", fn := fun _ => fun
  | [d1, d2] => { results := [.lit (.bool true)], args := [d1, d2] }
  | _ => none }
def fnExactFactHasRow : OpenClaim := { program := "ytdjomoogldkpfaa", sum := "4a2b313b74b45911885e23a19e854dbe4f92bbd66d6c37c2153992dcd2af8148", func := "loop.example/g01292/laws.FnExactFactHas", spec := "fnExactFactHas", apart := false }
def FnExactFactHasSaid : Prop := fnExactFactHasRow.holds Try.pinned (OpenSpec.ofChange fnExactFactHasSpec)

/-- ITS FALSE NEIGHBOUR: 'it returns false'. Refute it at one input. -/
def fnExactFactHasWrong : ChangeSpec := { name := "fnExactFactHas", fn := fun _ => fun
  | [d1, d2] => { results := [.lit (.bool false)], args := [d1, d2] }
  | _ => none }
def FnExactFactHasWrongFalsely : Prop := fnExactFactHasRow.holds Try.pinned (OpenSpec.ofChange fnExactFactHasWrong)

/-- 'laws.FnFacts': WHATEVER THE INPUT: true; the input reads as it did. -/
def fnFactsSpec : ChangeSpec := { name := "fnFacts", fn := fun _ => fun
  | [d] => { results := [.lit (.bool true)], args := [d] }
  | _ => none }
def fnFactsRow : OpenClaim := { program := "ytdjomoogldkpfaa", sum := "4a2b313b74b45911885e23a19e854dbe4f92bbd66d6c37c2153992dcd2af8148", func := "loop.example/g01292/laws.FnFacts", spec := "fnFacts", apart := false }
def FnFactsSaid : Prop := fnFactsRow.holds Try.pinned (OpenSpec.ofChange fnFactsSpec)

/-- ITS FALSE NEIGHBOUR: 'it returns false'. Refute it at one input. -/
def fnFactsWrong : ChangeSpec := { name := "fnFacts", fn := fun _ => fun
  | [d] => { results := [.lit (.bool false)], args := [d] }
  | _ => none }
def FnFactsWrongFalsely : Prop := fnFactsRow.holds Try.pinned (OpenSpec.ofChange fnFactsWrong)

/-- 'laws.FnExactAbsAt': WHATEVER THE INPUT: true; the input reads as it did. -/
def fnExactAbsAtSpec : ChangeSpec := { name := "fnExactAbsAt", fn := fun _ => fun
  | [d1, d2, d3, d4] => { results := [.lit (.bool true)], args := [d1, d2, d3, d4] }
  | _ => none }
def fnExactAbsAtRow : OpenClaim := { program := "ytdjomoogldkpfaa", sum := "4a2b313b74b45911885e23a19e854dbe4f92bbd66d6c37c2153992dcd2af8148", func := "loop.example/g01292/laws.FnExactAbsAt", spec := "fnExactAbsAt", apart := false }
def FnExactAbsAtSaid : Prop := fnExactAbsAtRow.holds Try.pinned (OpenSpec.ofChange fnExactAbsAtSpec)

/-- ITS FALSE NEIGHBOUR: 'it returns false'. Refute it at one input. -/
def fnExactAbsAtWrong : ChangeSpec := { name := "fnExactAbsAt", fn := fun _ => fun
  | [d1, d2, d3, d4] => { results := [.lit (.bool false)], args := [d1, d2, d3, d4] }
  | _ => none }
def FnExactAbsAtWrongFalsely : Prop := fnExactAbsAtRow.holds Try.pinned (OpenSpec.ofChange fnExactAbsAtWrong)

/-- 'laws.FnExactFactAdd': WHATEVER THE INPUT: true; the input reads as it did. -/
def fnExactFactAddSpec : ChangeSpec := { name := "fnExactFactAdd", fn := fun _ => fun
  | [d1, d2] => { results := [.lit (.bool true)], args := [d1, d2] }
  | _ => none }
def fnExactFactAddRow : OpenClaim := { program := "ytdjomoogldkpfaa", sum := "4a2b313b74b45911885e23a19e854dbe4f92bbd66d6c37c2153992dcd2af8148", func := "loop.example/g01292/laws.FnExactFactAdd", spec := "fnExactFactAdd", apart := false }
def FnExactFactAddSaid : Prop := fnExactFactAddRow.holds Try.pinned (OpenSpec.ofChange fnExactFactAddSpec)

/-- ITS FALSE NEIGHBOUR: 'it returns false'. Refute it at one input. -/
def fnExactFactAddWrong : ChangeSpec := { name := "fnExactFactAdd", fn := fun _ => fun
  | [d1, d2] => { results := [.lit (.bool false)], args := [d1, d2] }
  | _ => none }
def FnExactFactAddWrongFalsely : Prop := fnExactFactAddRow.holds Try.pinned (OpenSpec.ofChange fnExactFactAddWrong)

/-- 'laws.FnExactValueOf': WHATEVER THE INPUT: true; the input reads as it did. -/
def fnExactValueOfSpec : ChangeSpec := { name := "fnExactValueOf", fn := fun _ => fun
  | [d1, d2, d3] => { results := [.lit (.bool true)], args := [d1, d2, d3] }
  | _ => none }
def fnExactValueOfRow : OpenClaim := { program := "ytdjomoogldkpfaa", sum := "4a2b313b74b45911885e23a19e854dbe4f92bbd66d6c37c2153992dcd2af8148", func := "loop.example/g01292/laws.FnExactValueOf", spec := "fnExactValueOf", apart := false }
def FnExactValueOfSaid : Prop := fnExactValueOfRow.holds Try.pinned (OpenSpec.ofChange fnExactValueOfSpec)

/-- ITS FALSE NEIGHBOUR: 'it returns false'. Refute it at one input. -/
def fnExactValueOfWrong : ChangeSpec := { name := "fnExactValueOf", fn := fun _ => fun
  | [d1, d2, d3] => { results := [.lit (.bool false)], args := [d1, d2, d3] }
  | _ => none }
def FnExactValueOfWrongFalsely : Prop := fnExactValueOfRow.holds Try.pinned (OpenSpec.ofChange fnExactValueOfWrong)

/- THE SECOND FORM. 'bulk': how many values and letters a reading holds, each counted each time it is reached (what is shared counts as often as it is met; a slice's spare places count too). A statement '..UptoSaid' is the law's where the arguments, and the package variables that the reading takes, are together of bulk at most 1048576: NARROWER than '..Said'. Prove '..Said' where nothing that the law and all that it calls make is longer than what came in: it says more and counts as full. Else prove '..UptoSaid'. A law counts once. -/
mutual
def uptoBulk {H : Type} : DataW H → Nat
  | .lit (.string bytes) => bytes.length + 1
  | .lit _ => 1
  | .nil => 1
  | .ptr d => uptoBulk d + 1
  | .slice elems spare => uptoBulkAll elems + uptoBulkAll spare + 1
  | .agg parts => uptoBulkAll parts + 1
  | .iface _ d => uptoBulk d + 1
  | .map entries => uptoBulkEntries entries + 1
  | .held _ => 1
def uptoBulkAll {H : Type} : List (DataW H) → Nat
  | [] => 0
  | d :: r => uptoBulk d + uptoBulkAll r
def uptoBulkEntries {H : Type} : List (Lit × DataW H) → Nat
  | [] => 0
  | x :: r => uptoBulkEntry x + uptoBulkEntries r
def uptoBulkEntry {H : Type} : Lit × DataW H → Nat
  | (.string bytes, d) => bytes.length + uptoBulk d + 1
  | (_, d) => uptoBulk d + 1
 end
def uptoSmall : (H : Type) → List (DataW H) → Bool := fun _ ds => decide (uptoBulkAll ds ≤ 1048576)
def OpenSpec.upto (s : _root_.Go.ChangeSpec) : _root_.Go.OpenSpec := { _root_.Go.OpenSpec.ofChange s with cond := some uptoSmall }

/-- 'laws.FnExactCtxPush', WHERE WHAT IT READS IS OF BULK AT MOST 1048576: true; the input reads as it did. -/
def fnExactCtxPushUptoRow : OpenClaim := { program := "ytdjomoogldkpfaa", sum := "4a2b313b74b45911885e23a19e854dbe4f92bbd66d6c37c2153992dcd2af8148", func := "loop.example/g01292/laws.FnExactCtxPush", spec := "fnExactCtxPush", apart := false, narrowed := true }
def FnExactCtxPushUptoSaid : Prop := fnExactCtxPushUptoRow.holds Try.pinned (OpenSpec.upto fnExactCtxPushSpec)

/-- 'laws.FnExactIsAtom', WHERE WHAT IT READS IS OF BULK AT MOST 1048576: true; the input reads as it did. -/
def fnExactIsAtomUptoRow : OpenClaim := { program := "ytdjomoogldkpfaa", sum := "4a2b313b74b45911885e23a19e854dbe4f92bbd66d6c37c2153992dcd2af8148", func := "loop.example/g01292/laws.FnExactIsAtom", spec := "fnExactIsAtom", apart := false, narrowed := true }
def FnExactIsAtomUptoSaid : Prop := fnExactIsAtomUptoRow.holds Try.pinned (OpenSpec.upto fnExactIsAtomSpec)

/-- 'laws.FnExactCtxSites', WHERE WHAT IT READS IS OF BULK AT MOST 1048576: true; the input reads as it did. -/
def fnExactCtxSitesUptoRow : OpenClaim := { program := "ytdjomoogldkpfaa", sum := "4a2b313b74b45911885e23a19e854dbe4f92bbd66d6c37c2153992dcd2af8148", func := "loop.example/g01292/laws.FnExactCtxSites", spec := "fnExactCtxSites", apart := false, narrowed := true }
def FnExactCtxSitesUptoSaid : Prop := fnExactCtxSitesUptoRow.holds Try.pinned (OpenSpec.upto fnExactCtxSitesSpec)

/-- 'laws.FnExactFactLess', WHERE WHAT IT READS IS OF BULK AT MOST 1048576: true; the input reads as it did. -/
def fnExactFactLessUptoRow : OpenClaim := { program := "ytdjomoogldkpfaa", sum := "4a2b313b74b45911885e23a19e854dbe4f92bbd66d6c37c2153992dcd2af8148", func := "loop.example/g01292/laws.FnExactFactLess", spec := "fnExactFactLess", apart := false, narrowed := true }
def FnExactFactLessUptoSaid : Prop := fnExactFactLessUptoRow.holds Try.pinned (OpenSpec.upto fnExactFactLessSpec)

/-- 'laws.FnContexts', WHERE WHAT IT READS IS OF BULK AT MOST 1048576: true; the input reads as it did. -/
def fnContextsUptoRow : OpenClaim := { program := "ytdjomoogldkpfaa", sum := "4a2b313b74b45911885e23a19e854dbe4f92bbd66d6c37c2153992dcd2af8148", func := "loop.example/g01292/laws.FnContexts", spec := "fnContexts", apart := false, narrowed := true }
def FnContextsUptoSaid : Prop := fnContextsUptoRow.holds Try.pinned (OpenSpec.upto fnContextsSpec)

/-- 'laws.FnExactSameFacts', WHERE WHAT IT READS IS OF BULK AT MOST 1048576: true; the input reads as it did. -/
def fnExactSameFactsUptoRow : OpenClaim := { program := "ytdjomoogldkpfaa", sum := "4a2b313b74b45911885e23a19e854dbe4f92bbd66d6c37c2153992dcd2af8148", func := "loop.example/g01292/laws.FnExactSameFacts", spec := "fnExactSameFacts", apart := false, narrowed := true }
def FnExactSameFactsUptoSaid : Prop := fnExactSameFactsUptoRow.holds Try.pinned (OpenSpec.upto fnExactSameFactsSpec)

/-- 'laws.FnExactFactsOk', WHERE WHAT IT READS IS OF BULK AT MOST 1048576: true; the input reads as it did. -/
def fnExactFactsOkUptoRow : OpenClaim := { program := "ytdjomoogldkpfaa", sum := "4a2b313b74b45911885e23a19e854dbe4f92bbd66d6c37c2153992dcd2af8148", func := "loop.example/g01292/laws.FnExactFactsOk", spec := "fnExactFactsOk", apart := false, narrowed := true }
def FnExactFactsOkUptoSaid : Prop := fnExactFactsOkUptoRow.holds Try.pinned (OpenSpec.upto fnExactFactsOkSpec)

/-- 'laws.FnExactFactHas', WHERE WHAT IT READS IS OF BULK AT MOST 1048576: true; the input reads as it did. -/
def fnExactFactHasUptoRow : OpenClaim := { program := "ytdjomoogldkpfaa", sum := "4a2b313b74b45911885e23a19e854dbe4f92bbd66d6c37c2153992dcd2af8148", func := "loop.example/g01292/laws.FnExactFactHas", spec := "fnExactFactHas", apart := false, narrowed := true }
def FnExactFactHasUptoSaid : Prop := fnExactFactHasUptoRow.holds Try.pinned (OpenSpec.upto fnExactFactHasSpec)

/-- 'laws.FnFacts', WHERE WHAT IT READS IS OF BULK AT MOST 1048576: true; the input reads as it did. -/
def fnFactsUptoRow : OpenClaim := { program := "ytdjomoogldkpfaa", sum := "4a2b313b74b45911885e23a19e854dbe4f92bbd66d6c37c2153992dcd2af8148", func := "loop.example/g01292/laws.FnFacts", spec := "fnFacts", apart := false, narrowed := true }
def FnFactsUptoSaid : Prop := fnFactsUptoRow.holds Try.pinned (OpenSpec.upto fnFactsSpec)

/-- 'laws.FnExactAbsAt', WHERE WHAT IT READS IS OF BULK AT MOST 1048576: true; the input reads as it did. -/
def fnExactAbsAtUptoRow : OpenClaim := { program := "ytdjomoogldkpfaa", sum := "4a2b313b74b45911885e23a19e854dbe4f92bbd66d6c37c2153992dcd2af8148", func := "loop.example/g01292/laws.FnExactAbsAt", spec := "fnExactAbsAt", apart := false, narrowed := true }
def FnExactAbsAtUptoSaid : Prop := fnExactAbsAtUptoRow.holds Try.pinned (OpenSpec.upto fnExactAbsAtSpec)

/-- 'laws.FnExactFactAdd', WHERE WHAT IT READS IS OF BULK AT MOST 1048576: true; the input reads as it did. -/
def fnExactFactAddUptoRow : OpenClaim := { program := "ytdjomoogldkpfaa", sum := "4a2b313b74b45911885e23a19e854dbe4f92bbd66d6c37c2153992dcd2af8148", func := "loop.example/g01292/laws.FnExactFactAdd", spec := "fnExactFactAdd", apart := false, narrowed := true }
def FnExactFactAddUptoSaid : Prop := fnExactFactAddUptoRow.holds Try.pinned (OpenSpec.upto fnExactFactAddSpec)

/-- 'laws.FnExactValueOf', WHERE WHAT IT READS IS OF BULK AT MOST 1048576: true; the input reads as it did. -/
def fnExactValueOfUptoRow : OpenClaim := { program := "ytdjomoogldkpfaa", sum := "4a2b313b74b45911885e23a19e854dbe4f92bbd66d6c37c2153992dcd2af8148", func := "loop.example/g01292/laws.FnExactValueOf", spec := "fnExactValueOf", apart := false, narrowed := true }
def FnExactValueOfUptoSaid : Prop := fnExactValueOfUptoRow.holds Try.pinned (OpenSpec.upto fnExactValueOfSpec)

end Rows
end Go.Proofs.Ytdjomoogldkpfaa
