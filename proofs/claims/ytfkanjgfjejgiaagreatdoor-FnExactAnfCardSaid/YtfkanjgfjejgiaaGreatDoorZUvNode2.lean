/- The reference's test of a node's fields comes to the program's. -/
import Derived.Test.YtfkanjgfjejgiaaGreatDoorZUvNode
set_option linter.unusedSimpArgs false
set_option linter.unusedVariables false
namespace Go.Proofs.YtfkanjgfjejgiaaGreatDoorE
open Go.Ev
set_option linter.unusedVariables false
theorem names_le (k : Int) : namesN k = 0 ∨ namesN k = 1 ∨ namesN k = 2 := by
  unfold namesN
  split
  · simp
  · split <;> simp
theorem empty_cases (s : ByteArray) : (s.toList == ([] : List UInt8)) = false ∨ ((s.toList == ([] : List UInt8)) = true ∧ nameB s = false) := by
  cases h : (s.toList == ([] : List UInt8)) with
  | false => exact .inl rfl
  | true => exact .inr ⟨rfl, nameB_empty (by simpa using h)⟩
theorem spec_fields (n : Nd) (hs : small n) (K : Nat) (hk : big ≤ K) : spec_l3Fields.f K n = some (fieldsB n) := by
  unfold big at hk
  obtain ⟨h1, h2⟩ := hs
  unfold spec_l3Fields.f fieldsB jn
  simp only [spec_inB, spec_arity, spec_names, spec_name n.Name (by omega) K (by omega), spec_name n.Other (by omega) K (by omega), Option.bind_some, empty_l]
  cases inB n.Kind 1 19
  · rfl
  have hr : (if n.Kind = 2 then some (inB n.N 0 65535) else if n.Kind = 8 then some (inB n.N 0 3) else some (decide (n.N = 0))) = some (restB n) := by
    unfold restB
    split
    · rfl
    · split <;> rfl
  rw [hr]
  have a := arity_le n.Kind
  unfold noKids fitsB
  generalize restB n = R
  have c1 := empty_cases n.Name
  have c2 := empty_cases n.Other
  generalize nameB n.Name = N1 at *
  generalize nameB n.Other = N2 at *
  generalize (n.Name.toList == ([] : List UInt8)) = E1 at *
  generalize (n.Other.toList == ([] : List UInt8)) = E2 at *
  have hn := names_le n.Kind
  generalize namesN n.Kind = m at *
  rcases (by omega : arityN n.Kind = 0 ∨ arityN n.Kind = 1 ∨ arityN n.Kind = 2 ∨ arityN n.Kind = 3) with h | h | h | h <;> rw [h] <;>
    by_cases hA : n.A = 0 <;> by_cases hB : n.B = 0 <;> by_cases hC : n.C = 0 <;> simp [hA, hB, hC] <;>
    (rcases hn with rfl | rfl | rfl <;> cases E1 <;> cases E2 <;> cases N1 <;> cases N2 <;> simp at c1 c2 ⊢)
end Go.Proofs.YtfkanjgfjejgiaaGreatDoorE
