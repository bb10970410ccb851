/- What the law FnExactFactHas says, without memory: for all values of its parameters its function answers true. And: whatever reads as data of the parameters' types is a value of their kinds. -/
import Derived.Test.YtdjomoogldkpfaaPAllx21
import Derived.Test.YtdjomoogldkpfaaOpen
import Derived.KernelRfl
namespace Go.Proofs.Ytdjomoogldkpfaa.StmtFnExactFactHas
open Go.RowKit Go.Proofs.Ytdjomoogldkpfaa.PAll Go.Proofs.YtdjomoogldkpfaaW.PrintWords Go.Proofs.YtdjomoogldkpfaaW.PrintLast Go.Proofs.Ytdjomoogldkpfaa.Open

def ok37 (x : S37) : Prop := (Lit.int .i64 x.f0).wf = true ∧ (Lit.int .i64 x.f1).wf = true ∧ (Lit.int .i64 x.f2).wf = true
theorem opens37 : Opens Try.prog 37 k37 ok37 := opens_struct (d := (Kd.pair (Kd.int .i64) (Kd.pair (Kd.int .i64) (Kd.int .i64)))) (f := (fun x : S37 => (x.f0, x.f1, x.f2))) (fun a => ⟨a.1, a.2.1, a.2.2⟩) Try.underlying37 (by kernel_rfl) (fun _ => rfl) (opensAt_cons rfl (opens_int Try.underlying3 (by kernel_rfl)) (opensAt_cons rfl (opens_int Try.underlying3 (by kernel_rfl)) (opensAt_one rfl (opens_int Try.underlying3 (by kernel_rfl)))))
def ok39 (x : S39) : Prop := (Lit.int .i64 x.f0).wf = true ∧ (Lit.int .i64 x.f1).wf = true ∧ (Lit.int .i64 x.f2).wf = true ∧ ok37 x.f3
theorem opens39 : Opens Try.prog 39 k39 ok39 := opens_struct (d := (Kd.pair (Kd.int .i64) (Kd.pair (Kd.int .i64) (Kd.pair (Kd.int .i64) k37)))) (f := (fun x : S39 => (x.f0, x.f1, x.f2, x.f3))) (fun a => ⟨a.1, a.2.1, a.2.2.1, a.2.2.2⟩) Try.underlying39 (by kernel_rfl) (fun _ => rfl) (opensAt_cons rfl (opens_int Try.underlying3 (by kernel_rfl)) (opensAt_cons rfl (opens_int Try.underlying3 (by kernel_rfl)) (opensAt_cons rfl (opens_int Try.underlying3 (by kernel_rfl)) (opensAt_one rfl opens37))))

/-- The one pure statement of the law. -/
def Pure : Prop := ∀ (l0 : List (S39)) (x1 : S39), (l0.length ≤ maxLen ∧ ∀ y ∈ l0, ok39 y) → ok39 x1 → ∃ k, laws_FnExactFactHas.f k l0 (x1.f0) (x1.f1) (x1.f2) (x1.f3.f0) (x1.f3.f1) (x1.f3.f2) = some true
end Go.Proofs.Ytdjomoogldkpfaa.StmtFnExactFactHas
