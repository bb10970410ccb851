/- Small facts about numbers in 64 bits, rounds and lists, for the pure statements. -/
import Derived.Test.YtdjomoogldkpfaaWWords
namespace Go.Proofs.Ytdjomoogldkpfaa.UBase
open Go.RowKit Go.Proofs.YtdjomoogldkpfaaW.PrintWords

theorem w64 {x : Int} (h0 : -9223372036854775808 ≤ x) (h1 : x ≤ 9223372036854775807) : wrap64 x = x := by
  unfold wrap64
  omega
theorem w64_id (x : Int) : wrap64 x = x ∨ x < -9223372036854775808 ∨ 9223372036854775807 < x := by
  by_cases h0 : -9223372036854775808 ≤ x
  · by_cases h1 : x ≤ 9223372036854775807
    · exact .inl (w64 h0 h1)
    · exact .inr (.inr (by omega))
  · exact .inr (.inl (by omega))
theorem wf_bounds {x : Int} (h : (Lit.int .i64 x).wf = true) : -9223372036854775808 ≤ x ∧ x ≤ 9223372036854775807 := by
  simp [Lit.wf] at h
  exact ⟨h.1, h.2⟩
theorem succ_of {k n : Nat} (h : n < k) : ∃ m, k = m + 1 := ⟨k - 1, by omega⟩

/-- With so many rounds and more it answers r. -/
def At {α : Type} (g : Nat → Option α) (K : Nat) (r : α) : Prop := ∀ k, K ≤ k → g k = some r

theorem set_getD_eq {α : Type} (l : List α) (i : Nat) (a d : α) (h : i < l.length) : (l.set i a).getD i d = a := by
  simp [List.getD, h]
theorem set_getD_ne {α : Type} (l : List α) (i j : Nat) (a d : α) (h : i ≠ j) : (l.set i a).getD j d = l.getD j d := by
  simp [List.getD, h]
theorem ext_getD {α : Type} {l m : List α} (d : α) (hl : l.length = m.length) (h : ∀ i, i < l.length → l.getD i d = m.getD i d) : l = m := by
  apply List.ext_getElem hl
  intro i h1 h2
  have := h i h1
  simpa [List.getD, List.getElem?_eq_getElem h1, List.getElem?_eq_getElem h2] using this
end Go.Proofs.Ytdjomoogldkpfaa.UBase
