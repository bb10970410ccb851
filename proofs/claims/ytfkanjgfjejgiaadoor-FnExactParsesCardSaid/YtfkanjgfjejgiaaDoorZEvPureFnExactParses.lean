/- The program's answer and the reference's answer are the same, for all texts: Parses. -/
import Derived.Test.YtfkanjgfjejgiaaDoorZEvStmtFnExactParses
import Derived.Test.YtfkanjgfjejgiaaDoorZUvParseAll
set_option linter.unusedSimpArgs false
set_option linter.unusedVariables false
namespace Go.Proofs.YtfkanjgfjejgiaaDoorE
open Go.Ev Go.RowKit
theorem pure_FnExactParses : StmtFnExactParses.Pure := by
  intro s hs
  obtain ⟨K, h⟩ := law_parses s
  exact laws_FnExactParses.ev h
end Go.Proofs.YtfkanjgfjejgiaaDoorE
