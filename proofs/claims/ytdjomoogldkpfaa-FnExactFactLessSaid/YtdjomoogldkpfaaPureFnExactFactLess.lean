/- The program's FactLess and the reference's FactLess return the same, for all pairs of facts. -/
import Derived.Test.YtdjomoogldkpfaaStmtFnExactFactLess
import Derived.Test.YtdjomoogldkpfaaUFacts
namespace Go.Proofs.Ytdjomoogldkpfaa.Pure
open Go.RowKit Go.Proofs.Ytdjomoogldkpfaa.PAll Go.Proofs.Ytdjomoogldkpfaa.StmtFnExactFactLess Go.Proofs.YtdjomoogldkpfaaW.PrintWords Go.Proofs.YtdjomoogldkpfaaW.PrintLast Go.Proofs.Ytdjomoogldkpfaa.UFacts

theorem FnExactFactLess : StmtFnExactFactLess.Pure := by
  intro a b _ _
  refine ⟨7, ?_⟩
  unfold laws_FnExactFactLess.f
  simp only [to_fact, Option.bind_some]
  have h1 := spec_less (to43 a) (to43 b)
  have h2 := impl_less 7 (by omega) (to43 a) (to43 b)
  simp only [to43, to41] at h1 h2
  rw [h1, h2]
  simp
end Go.Proofs.Ytdjomoogldkpfaa.Pure
