/- The program's CtxSites and the reference's CtxSites return the same list in new memory, for each number. -/
import Derived.Test.YtdjomoogldkpfaaPFnExactCtxSitesx1
namespace Go.Proofs.Ytdjomoogldkpfaa.Pure
open Go.RowKit Go.Proofs.Ytdjomoogldkpfaa.PFnExactCtxSites Go.Proofs.YtdjomoogldkpfaaW.PrintWords Go.Proofs.YtdjomoogldkpfaaW.PrintLast

/-- The sites of a context. -/
def ctxSites (a : Int) : List Int := (if a / 151 > 0 then [a / 151 - 1] else []) ++ (if a % 151 > 0 then [a % 151 - 1] else [])

theorem w64 {x : Int} (h0 : -1000000 ≤ x) (h1 : x ≤ 1000000) : wrap64 x = x := by unfold wrap64; omega

theorem spec_some (a : Int) : spec_CtxSites.f a = some (if 0 ≤ a ∧ a ≤ 22800 then ctxSites a else []) := by
  unfold spec_CtxSites.f spec_l1In.f ctxSites
  by_cases h0 : 0 ≤ a
  · by_cases h1 : a ≤ 22800
    · rw [Int.tdiv_eq_ediv_of_nonneg h0, Int.tmod_eq_emod_of_nonneg h0, w64 (x := a / 151) (by omega) (by omega), w64 (x := a / 151 - 1) (by omega) (by omega), w64 (x := a % 151 - 1) (by omega) (by omega)]
      by_cases h2 : a / 151 > 0 <;> by_cases h3 : a % 151 > 0 <;> simp [h0, h1, h2, h3]
    · simp [h0, h1]
  · simp [h0]

theorem impl_some (k : Nat) (hk : 3 ≤ k) (a : Int) : impl_CtxSites.f k a = some (if 0 ≤ a ∧ a ≤ 22800 then ctxSites a else []) := by
  obtain ⟨k, rfl⟩ : ∃ m, k = m + 3 := ⟨k - 3, by omega⟩
  unfold impl_CtxSites.f impl_in.f ctxSites
  by_cases h0 : 0 ≤ a
  · by_cases h1 : a ≤ 22800
    · rw [Int.tdiv_eq_ediv_of_nonneg h0, Int.tmod_eq_emod_of_nonneg h0, w64 (x := a / 151) (by omega) (by omega)]
      have e0 : rd [a / 151, a % 151] 0 = a / 151 := rfl
      have e1 : rd [a / 151, a % 151] 1 = a % 151 := rfl
      have f0 : wrap64 1 = 1 := by unfold wrap64; omega
      have f1 : wrap64 2 = 2 := by unfold wrap64; omega
      by_cases h2 : a / 151 > 0 <;> by_cases h3 : a % 151 > 0 <;>
        simp [impl_CtxSites.l0, h0, h1, h2, h3, e0, e1, f0, f1, w64 (x := a / 151 - 1) (by omega) (by omega), w64 (x := a % 151 - 1) (by omega) (by omega)]
    · simp [h0, h1]
  · simp [h0]

theorem ctxSites_cases (a : Int) : (if 0 ≤ a ∧ a ≤ 22800 then ctxSites a else []) = [] ∨ (∃ x, (if 0 ≤ a ∧ a ≤ 22800 then ctxSites a else []) = [x]) ∨ ∃ x y, (if 0 ≤ a ∧ a ≤ 22800 then ctxSites a else []) = [x, y] := by
  unfold ctxSites
  by_cases h : 0 ≤ a ∧ a ≤ 22800 <;> by_cases h2 : a / 151 > 0 <;> by_cases h3 : a % 151 > 0 <;> simp [h, h2, h3]

theorem FnExactCtxSites : laws_FnExactCtxSites.Pure := by
  intro a _
  refine ⟨4, ?_⟩
  unfold laws_FnExactCtxSites.f
  rw [spec_some a, impl_some 4 (by omega) a]
  have hL := ctxSites_cases a
  generalize (if 0 ≤ a ∧ a ≤ 22800 then ctxSites a else []) = L at *
  have f0 : wrap64 1 = 1 := by unfold wrap64; omega
  have f1 : wrap64 2 = 2 := by unfold wrap64; omega
  have f2 : wrap64 3 = 3 := by unfold wrap64; omega
  rcases hL with rfl | ⟨x, rfl⟩ | ⟨x, y, rfl⟩ <;>
    simp [laws_eqIntS.f, laws_eqIntS.l0, laws_markIntS.f, laws_markIntS.l0, laws_heldIntS.f, laws_heldIntS.l0, rd, f0, f1, f2]

end Go.Proofs.Ytdjomoogldkpfaa.Pure
