/- The program's FactsOk and the reference's FactsOk return the same, for all lists of facts, and leave the list as it is. -/
import Derived.Test.YtdjomoogldkpfaaStmtFnExactFactsOk
import Derived.Test.YtdjomoogldkpfaaUFacts
namespace Go.Proofs.Ytdjomoogldkpfaa.Pure
open Go.RowKit Go.Proofs.Ytdjomoogldkpfaa.PAll Go.Proofs.Ytdjomoogldkpfaa.StmtFnExactFactsOk Go.Proofs.YtdjomoogldkpfaaW.PrintWords Go.Proofs.YtdjomoogldkpfaaW.PrintLast Go.Proofs.Ytdjomoogldkpfaa.UFacts

theorem FnExactFactsOk : StmtFnExactFactsOk.Pure := by
  intro l ⟨hl, _⟩
  have hl' : l.length ≤ 9223372036854775807 := by simpa [maxLen] using hl
  refine ⟨l.length + 10, ?_⟩
  unfold laws_FnExactFactsOk.f
  rw [sz_some l 1048576 hl' (by omega) (by omega)]
  simp only [Option.bind_some]
  by_cases h : (1048576 : Int) < l.length
  · rw [if_pos h, if_pos (by omega)]
  · have hn : l.length ≤ 1048576 := by omega
    rw [if_neg h, if_neg (by omega), toFactS l hn _ (by omega)]
    simp only [Option.bind_some]
    have hm : (l.map to43).length = l.length := List.length_map _
    rw [specOk _ (by omega) _ (by omega), implOk _ (by omega) _ (by omega)]
    simp only [Option.bind_some]
    rw [if_neg (by simp), eqFactS _ (by omega) _ (by omega)]
    simp
end Go.Proofs.Ytdjomoogldkpfaa.Pure
