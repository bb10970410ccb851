/- Each part of a drawn program is one, begins and ends where it should and prints as it does in its place: the law's answer is true. -/
import Derived.Test.YtfkanjgfjejgiaaDoorZEvStmtFnNodes
import Derived.Test.YtfkanjgfjejgiaaDoorZUvNdL
set_option linter.unusedSimpArgs false
set_option linter.unusedVariables false
namespace Go.Proofs.YtfkanjgfjejgiaaDoorE
open Go.Ev Go.RowKit
theorem bytes_of : ∀ (l : List (List D)), (∀ r ∈ l, (isI .u8) r) → ∃ a : List Int, l = a.map eY
  | [], _ => ⟨[], rfl⟩
  | x :: l, h => by
    obtain ⟨n, e, _⟩ := h x (by simp)
    obtain ⟨a, q⟩ := bytes_of l fun r hr => h r (by simp [hr])
    exact ⟨n :: a, by rw [e, q]; rfl⟩
theorem pure_FnNodes : StmtFnNodes.Pure := by
  intro l _ h
  obtain ⟨a, e⟩ := bytes_of l h
  obtain ⟨K, h⟩ := law_nodes a
  rw [e]
  exact laws_FnNodes.ev h
end Go.Proofs.YtfkanjgfjejgiaaDoorE
