/- The program's FactHas and the reference's FactHas return the same, for all lists of facts and all facts, and leave the list as it is. -/
import Derived.Test.YtdjomoogldkpfaaStmtFnExactFactHas
import Derived.Test.YtdjomoogldkpfaaUFacts
namespace Go.Proofs.Ytdjomoogldkpfaa.Pure
open Go.RowKit Go.Proofs.Ytdjomoogldkpfaa.PAll Go.Proofs.Ytdjomoogldkpfaa.StmtFnExactFactHas Go.Proofs.YtdjomoogldkpfaaW.PrintWords Go.Proofs.YtdjomoogldkpfaaW.PrintLast Go.Proofs.Ytdjomoogldkpfaa.UFacts

theorem FnExactFactHas : StmtFnExactFactHas.Pure := by
  intro l f ⟨hl, _⟩ _
  have hl' : l.length ≤ 9223372036854775807 := by simpa [maxLen] using hl
  refine ⟨l.length + 10, ?_⟩
  unfold laws_FnExactFactHas.f
  rw [sz_some l 1048576 hl' (by omega) (by omega)]
  simp only [Option.bind_some]
  by_cases h : (1048576 : Int) < l.length
  · rw [if_pos h, if_pos (by omega)]
  · have hn : l.length ≤ 1048576 := by omega
    rw [if_neg h, if_neg (by omega), toFactS l hn _ (by omega)]
    simp only [Option.bind_some, to_fact]
    have hm : (l.map to43).length = l.length := List.length_map _
    have h1 := specHas (l.map to43) (to43 f) (by omega) (l.length + 10) (by omega)
    have h2 := implHas (l.map to43) (to43 f) (by omega) (l.length + 10) (by omega)
    simp only [to43, to41] at h1 h2
    have e : l.map to43 = l.map (fun x : S39 => (⟨x.f0, x.f1, x.f2, ⟨x.f3.f0, x.f3.f1, x.f3.f2⟩⟩ : S43)) := rfl
    rw [e] at h1 h2 ⊢
    rw [h1]
    simp only [Option.bind_some]
    rw [h2]
    simp only [Option.bind_some]
    rw [if_neg (by simp), eqFactS _ (by simp; omega) _ (by simp)]
    simp
end Go.Proofs.Ytdjomoogldkpfaa.Pure
