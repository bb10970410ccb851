/- What the rows list of the library's variables, as the evaluator's library functions ask for it. -/
import Derived.Test.YtfkanjgfjejgiaaDoorRows
import Derived.Test.YtfkanjgfjejgiaaDoorZEvPr
import Derived.LaidMore
import Derived.SevenTiedAt
import Derived.Stop.LaidErr
import Derived.Stop.Joined
import Derived.LaidLaws
import Derived.Lib.LaidTab
set_option linter.unusedSimpArgs false
set_option linter.unusedVariables false
namespace Go.Proofs.YtfkanjgfjejgiaaDoorE
open Go.Ev Go.RowKit Go.Shelf Go.Lib
set_option linter.unusedVariables false
theorem laid_star : "*" ++ "errors.errorString" = "*errors.errorString" := by decide
theorem laid_row (u : TypeId) (h : Tryd.prog.typeName? 3 u = some "*errors.errorString") : u = 178 :=
  typeName_ptr_named (nm := "errors.errorString") (by rw [laid_star]; kernel_rfl) (by kernel_rfl) (by decide) u (by rw [laid_star]; exact h)
theorem laid_table {H : Type} : (Go.Proofs.YtfkanjgfjejgiaaDoor.Rows.laid_internal_strconv_uint64pow10 : DataW H) = Lib.tabData .u64 Lib.pow10Tab := by rfl
theorem laid_ok {w : World} (h0 : laidMetH Tryd.prog Go.Proofs.YtfkanjgfjejgiaaDoor.Rows.fnExactParsesRow.laid w) : Laid w := by
  have h : laidMet Tryd.prog Go.Proofs.YtfkanjgfjejgiaaDoor.Rows.fnExactParsesRow.laid w := by rw [MakeChecks.laidMetH_plain _ _ _ (by kernel_rfl)] at h0; exact h0
  have t1 : laidMet Tryd.prog (("internal/strconv.uint64pow10", Lib.tabData .u64 Lib.pow10Tab) :: ("unicode/utf8.acceptRanges", Go.Proofs.YtfkanjgfjejgiaaDoor.Rows.laid_unicode_utf8_acceptRanges) :: ("strconv.ErrRange", Go.Proofs.YtfkanjgfjejgiaaDoor.Rows.laid_strconv_ErrRange) :: ("strconv.ErrSyntax", Go.Proofs.YtfkanjgfjejgiaaDoor.Rows.laid_strconv_ErrSyntax) :: ("unicode/utf8.first", Go.Proofs.YtfkanjgfjejgiaaDoor.Rows.laid_unicode_utf8_first) :: []) w := h.tail.tail
  have t2 := t1.tail.tail
  obtain ⟨a1, s1, hv1, -, -, -⟩ := laid_sentinel t2 (show Tryd.prog.globalNamed "strconv.ErrRange" = some 3 by kernel_rfl) (show (Tryd.prog.globals[3]?).map (·.type) = some 120 by kernel_rfl) Tryd.underlying120 laid_row Tryd.underlying178 Tryd.underlying180 rfl rfl Tryd.underlying9 (by kernel_rfl) (by kernel_rfl)
  obtain ⟨a2, s2, hv2, -, -, -⟩ := laid_sentinel t2.tail (show Tryd.prog.globalNamed "strconv.ErrSyntax" = some 2 by kernel_rfl) (show (Tryd.prog.globals[2]?).map (·.type) = some 120 by kernel_rfl) Tryd.underlying120 laid_row Tryd.underlying178 Tryd.underlying180 rfl rfl Tryd.underlying9 (by kernel_rfl) (by kernel_rfl)
  refine ⟨Lib.tabIs_of_head (show Tryd.prog.globalNamed "internal/strconv.uint64pow10" = some 1 by kernel_rfl) (show (Tryd.prog.globals[1]?).map (·.type) = some 159 by kernel_rfl) Tryd.underlying159 (by kernel_rfl) (by kernel_rfl) (by kernel_rfl) t1, ⟨.iface 178 (.pointer (some a2)), ?_, .inr ⟨_, _, rfl⟩⟩, ⟨.iface 178 (.pointer (some a1)), ?_, .inr ⟨_, _, rfl⟩⟩⟩
  · have h0 := World.var?_cell (show Tryd.prog.globalNamed "strconv.ErrSyntax" = some 2 by kernel_rfl) hv2 0
    exact (show w.cell? ⟨2, 0, none⟩ = some (.iface 178 (.pointer (some a2))) by simpa using h0)
  · have h0 := World.var?_cell (show Tryd.prog.globalNamed "strconv.ErrRange" = some 3 by kernel_rfl) hv1 0
    exact (show w.cell? ⟨3, 0, none⟩ = some (.iface 178 (.pointer (some a1))) by simpa using h0)
end Go.Proofs.YtfkanjgfjejgiaaDoorE
