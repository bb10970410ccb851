/- What the law FnNodes says, told by the evaluator: for all values of its parameters its function answers true. -/
import Derived.Test.YtfkanjgfjejgiaaDoorZN
import Derived.Test.YtfkanjgfjejgiaaDoorEvRow
set_option linter.unusedSimpArgs false
set_option linter.unusedVariables false
namespace Go.Proofs.YtfkanjgfjejgiaaDoorE.StmtFnNodes
open Go.RowKit Go.Ev Go.Proofs.YtfkanjgfjejgiaaDoorE
theorem pI {k : IntKind} : ∀ xs, isI k xs → xs.all D.isP = true := fun xs ⟨n, h, _⟩ => by rw [h]; rfl
theorem pB : ∀ xs, isB xs → xs.all D.isP = true := fun xs ⟨n, h⟩ => by rw [h]; rfl
theorem pS : ∀ xs, isS xs → xs.all D.isP = true := fun xs ⟨n, h, _⟩ => by rw [h]; rfl
theorem pP {a b : List D → Prop} (ha : ∀ xs, a xs → xs.all D.isP = true) (hb : ∀ xs, b xs → xs.all D.isP = true) : ∀ xs, isP2 a b xs → xs.all D.isP = true := fun xs ⟨ys, zs, h, p, q⟩ => by rw [h, List.all_append, ha ys p, hb zs q]; rfl
/-- The one pure statement of the law. -/
def Pure : Prop := ∀ (l0 : List (List D)), l0.length ≤ maxLen → (∀ r ∈ l0, (isI .u8) r) → Go.Ev.Ev Tryd.prog tb md prim 3 [.d (.l true 1 l0)] = some ([.d (.p (.bool true))], [])
end Go.Proofs.YtfkanjgfjejgiaaDoorE.StmtFnNodes
