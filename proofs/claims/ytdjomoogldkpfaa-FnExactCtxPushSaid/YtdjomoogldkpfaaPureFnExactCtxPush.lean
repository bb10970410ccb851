/- The program's CtxPush and the reference's CtxPush return the same number, for all three arguments. -/
import Derived.Test.YtdjomoogldkpfaaPFnExactCtxPushx1
namespace Go.Proofs.Ytdjomoogldkpfaa.Pure
open Go.RowKit Go.Proofs.Ytdjomoogldkpfaa.PFnExactCtxPush Go.Proofs.YtdjomoogldkpfaaW.PrintWords Go.Proofs.YtdjomoogldkpfaaW.PrintLast

theorem FnExactCtxPush : laws_FnExactCtxPush.Pure := by
  intro a0 a1 a2 _ _ _
  refine ⟨1, ?_⟩
  simp only [laws_FnExactCtxPush.f, spec_CtxPush.f, impl_CtxPush.f, spec_l1In.f, impl_in.f, spec_CtxPush.j0, impl_CtxPush.j0]
  by_cases c0 : 0 ≤ a0 <;> by_cases c0' : a0 ≤ 22800 <;> by_cases c1 : 0 ≤ a1 <;> by_cases c1' : a1 ≤ 149 <;>
    by_cases c2 : a2 = 1 <;> by_cases c3 : a2 = 2 <;> by_cases c4 : 1 ≤ a2 <;> by_cases c5 : a2 ≤ 2 <;>
    simp [c0, c0', c1, c1', c2, c3, c4, c5, wrap64] <;> omega

end Go.Proofs.Ytdjomoogldkpfaa.Pure
