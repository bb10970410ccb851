/- What a function takes from outside is bound over it, for all drawn programs: the law's answer is true. -/
import Derived.Test.YtfkanjgfjejgiaaDoorZEvStmtFnOuter
import Derived.Test.YtfkanjgfjejgiaaDoorZUvOutL
set_option linter.unusedSimpArgs false
set_option linter.unusedVariables false
namespace Go.Proofs.YtfkanjgfjejgiaaDoorE
open Go.Ev Go.RowKit
theorem bytes_of : ∀ (l : List (List D)), (∀ r ∈ l, (isI .u8) r) → ∃ a : List Int, l = a.map eY
  | [], _ => ⟨[], rfl⟩
  | x :: l, h => by
    obtain ⟨n, e, _⟩ := h x (by simp)
    obtain ⟨a, q⟩ := bytes_of l fun r hr => h r (by simp [hr])
    exact ⟨n :: a, by rw [e, q]; rfl⟩
theorem pure_FnOuter : StmtFnOuter.Pure := by
  intro l _ h
  obtain ⟨a, e⟩ := bytes_of l h
  obtain ⟨K, h⟩ := law_outer a
  rw [e]
  exact laws_FnOuter.ev h
end Go.Proofs.YtfkanjgfjejgiaaDoorE
