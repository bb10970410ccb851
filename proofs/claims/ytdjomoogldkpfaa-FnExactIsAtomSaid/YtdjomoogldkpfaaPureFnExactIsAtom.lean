/- The program's IsAtom and the reference's IsAtom return the same, for each node. -/
import Derived.Test.YtdjomoogldkpfaaStmtFnExactIsAtom
namespace Go.Proofs.Ytdjomoogldkpfaa.Pure
open Go.RowKit Go.Proofs.Ytdjomoogldkpfaa.PAll Go.Proofs.Ytdjomoogldkpfaa.StmtFnExactIsAtom Go.Proofs.YtdjomoogldkpfaaW.PrintWords Go.Proofs.YtdjomoogldkpfaaW.PrintLast

theorem FnExactIsAtom : StmtFnExactIsAtom.Pure := by
  intro x _
  unfold laws_FnExactIsAtom.f laws_szNode.f
  have e : ∀ o : Option Int, (∃ r, o = some r) → (o.bind fun r => (if r < 0 then some true else
      (laws_toNode.f x.f0 x.f1 x.f2 x.f3 x.f4 x.f5 x.f6).bind fun bt109 => (spec_IsAtom.f bt109.1 bt109.2.1 bt109.2.2.1 bt109.2.2.2.1 bt109.2.2.2.2.1 bt109.2.2.2.2.2.1 bt109.2.2.2.2.2.2).bind fun t116 =>
        (laws_toNode.f x.f0 x.f1 x.f2 x.f3 x.f4 x.f5 x.f6).bind fun bt117 => (impl_IsAtom.f bt117.1 bt117.2.1 bt117.2.2.1 bt117.2.2.2.1 bt117.2.2.2.2.1 bt117.2.2.2.2.2.1 bt117.2.2.2.2.2.2).bind fun t124 =>
          if (t124 != t116) = true then some false else some true)) = some true := by
    rintro _ ⟨r, rfl⟩
    simp only [Option.bind_some]
    split
    · rfl
    · simp only [laws_toNode.f, spec_IsAtom.f, impl_IsAtom.f, Option.bind_some]
      by_cases h1 : x.f0 = 1
      · simp [h1]
      · by_cases h2 : x.f0 = 2
        · simp [h2]
        · simp [h1, h2]
  refine e _ ?_
  split
  · exact ⟨_, rfl⟩
  · split
    · exact ⟨_, rfl⟩
    · exact ⟨_, rfl⟩
end Go.Proofs.Ytdjomoogldkpfaa.Pure
