/- The program's answer and the reference's answer are the same, for all texts: Parse. -/
import Derived.Test.YtfkanjgfjejgiaaDoorZEvStmtFnExactParse
import Derived.Test.YtfkanjgfjejgiaaDoorZUvParseAll
set_option linter.unusedSimpArgs false
set_option linter.unusedVariables false
namespace Go.Proofs.YtfkanjgfjejgiaaDoorE
open Go.Ev Go.RowKit
theorem pure_FnExactParse : StmtFnExactParse.Pure := by
  intro s hs
  obtain ⟨K, h⟩ := law_parse s
  exact laws_FnExactParse.ev h
end Go.Proofs.YtfkanjgfjejgiaaDoorE
