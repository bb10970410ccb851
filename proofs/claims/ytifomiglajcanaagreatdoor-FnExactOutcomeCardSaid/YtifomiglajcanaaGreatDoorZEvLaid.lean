/- What the rows list of the library's variables, as the evaluator's library functions ask for it. -/
import Derived.Test.YtifomiglajcanaaGreatDoorRows
import Derived.Test.YtifomiglajcanaaGreatDoorZEvPr
import Derived.LaidMore
import Derived.SevenTiedAt
import Derived.Stop.LaidErr
import Derived.Stop.Joined
import Derived.LaidLaws
import Derived.Lib.LaidTab
set_option linter.unusedSimpArgs false
set_option linter.unusedVariables false
namespace Go.Proofs.YtifomiglajcanaaGreatDoorE
open Go.Ev Go.RowKit Go.Shelf Go.Lib
set_option linter.unusedVariables false
theorem laid_table {H : Type} : (Go.Proofs.YtifomiglajcanaaGreatDoor.Rows.laid_internal_strconv_uint64pow10 : DataW H) = Lib.tabData .u64 Lib.pow10Tab := by rfl
theorem laid_ok {w : World} (h0 : laidMetH Tryz.prog Go.Proofs.YtifomiglajcanaaGreatDoor.Rows.fnExactOutcomeRow.laid w) : Laid w := by
  have h : laidMet Tryz.prog Go.Proofs.YtifomiglajcanaaGreatDoor.Rows.fnExactOutcomeRow.laid w := by rw [MakeChecks.laidMetH_plain _ _ _ (by kernel_rfl)] at h0; exact h0
  have t1 : laidMet Tryz.prog (("internal/strconv.uint64pow10", Lib.tabData .u64 Lib.pow10Tab) :: ("unicode/utf8.acceptRanges", Go.Proofs.YtifomiglajcanaaGreatDoor.Rows.laid_unicode_utf8_acceptRanges) :: ("unicode/utf8.first", Go.Proofs.YtifomiglajcanaaGreatDoor.Rows.laid_unicode_utf8_first) :: []) w := h.tail.tail
  refine ⟨Lib.tabIs_of_head (show Tryz.prog.globalNamed "internal/strconv.uint64pow10" = some 1 by kernel_rfl) (show (Tryz.prog.globals[1]?).map (·.type) = some 190 by kernel_rfl) Tryz.underlying190 (by kernel_rfl) (by kernel_rfl) (by kernel_rfl) t1⟩
end Go.Proofs.YtifomiglajcanaaGreatDoorE
