/- The program's SameFacts and the reference's SameFacts return the same, for all pairs of lists of facts, and leave both as they are. -/
import Derived.Test.YtdjomoogldkpfaaStmtFnExactSameFacts
import Derived.Test.YtdjomoogldkpfaaUFacts
namespace Go.Proofs.Ytdjomoogldkpfaa.Pure
open Go.RowKit Go.Proofs.Ytdjomoogldkpfaa.PAll Go.Proofs.Ytdjomoogldkpfaa.StmtFnExactSameFacts Go.Proofs.YtdjomoogldkpfaaW.PrintWords Go.Proofs.YtdjomoogldkpfaaW.PrintLast Go.Proofs.Ytdjomoogldkpfaa.UFacts Go.Proofs.Ytdjomoogldkpfaa.UBase

def neB (a b : S43) : Bool := !(a.f0 == b.f0) || (!(a.f1 == b.f1) || (!(a.f2 == b.f2) || ((!(a.f3.f0 == b.f3.f0) || (!(a.f3.f1 == b.f3.f1) || (!(a.f3.f2 == b.f3.f2)))))))
def sameFrom (x y : List S43) : Nat → Nat → Bool
  | 0, _ => true
  | d + 1, i => if neB (x.getD i z43) (y.getD i z43) = true then false else sameFrom x y d (i + 1)
theorem spec_same (x y : List S43) (hn : x.length ≤ 4000000) (hl : x.length = y.length) (d : Nat) : ∀ (k i : Nat), i + d = x.length → d < k → spec_SameFacts.l0 k x y i = some (sameFrom x y d i) := by
  induction d with
  | zero =>
    intro k i hi hk
    obtain ⟨k, rfl⟩ := succ_of hk
    simp only [spec_SameFacts.l0]
    rw [if_neg (by omega)]
    rfl
  | succ d ih =>
    intro k i hi hk
    obtain ⟨k, rfl⟩ := succ_of hk
    simp only [spec_SameFacts.l0]
    rw [if_pos (by omega), if_pos (by omega), if_pos (by omega), w64 (by omega) (by omega)]
    unfold sameFrom
    have e : neB (x.getD i z43) (y.getD i z43) = neB (rd_T43 x i) (rd_T43 y i) := by simp [rd_T43]
    rw [e]
    by_cases h : neB (rd_T43 x i) (rd_T43 y i) = true
    · rw [if_pos h]
      exact if_pos h
    · rw [if_neg h]
      refine (if_neg h).trans ?_
      exact ih k (i + 1) (by omega) (by omega)
theorem impl_same (x y : List S43) (hn : x.length ≤ 4000000) (hl : x.length = y.length) (d : Nat) : ∀ (k i : Nat), i + d = x.length → d < k → impl_SameFacts.l0 k x y x.length i = some (sameFrom x y d i) := by
  induction d with
  | zero =>
    intro k i hi hk
    obtain ⟨k, rfl⟩ := succ_of hk
    simp only [impl_SameFacts.l0]
    rw [if_neg (by omega)]
    rfl
  | succ d ih =>
    intro k i hi hk
    obtain ⟨k, rfl⟩ := succ_of hk
    simp only [impl_SameFacts.l0]
    rw [if_pos (by omega), if_pos (by omega), if_pos (by omega), if_pos (by omega), w64 (by omega) (by omega)]
    unfold sameFrom
    have e : neB (x.getD i z43) (y.getD i z43) = neB (rd_T43 x i) (rd_T43 y i) := by simp [rd_T43]
    rw [e]
    by_cases h : neB (rd_T43 x i) (rd_T43 y i) = true
    · rw [if_pos h]
      exact if_pos h
    · rw [if_neg h]
      refine (if_neg h).trans ?_
      exact ih k (i + 1) (by omega) (by omega)
def sameB (x y : List S43) : Bool := if x.length = y.length then sameFrom x y x.length 0 else false
theorem spec_sameF (x y : List S43) (hn : x.length ≤ 4000000) (k : Nat) (hk : x.length < k) : spec_SameFacts.f k x y = some (sameB x y) := by
  unfold spec_SameFacts.f sameB
  by_cases h : x.length = y.length
  · rw [if_pos (by omega), if_pos h]
    exact spec_same x y hn h _ k 0 (by omega) hk
  · rw [if_neg (by omega), if_neg h]
theorem impl_sameF (x y : List S43) (hn : x.length ≤ 4000000) (k : Nat) (hk : x.length < k) : impl_SameFacts.f k x y = some (sameB x y) := by
  unfold impl_SameFacts.f sameB
  by_cases h : x.length = y.length
  · rw [if_pos (by omega), if_pos h]
    exact impl_same x y hn h _ k 0 (by omega) hk
  · rw [if_neg (by omega), if_neg h]

theorem FnExactSameFacts : StmtFnExactSameFacts.Pure := by
  intro l m ⟨hl, _⟩ ⟨hm, _⟩
  have hl' : l.length ≤ 9223372036854775807 := by simpa [maxLen] using hl
  have hm' : m.length ≤ 9223372036854775807 := by simpa [maxLen] using hm
  refine ⟨l.length + m.length + 10, ?_⟩
  unfold laws_FnExactSameFacts.f
  rw [sz_some l 1048576 hl' (by omega) (by omega)]
  simp only [Option.bind_some]
  by_cases h : (1048576 : Int) < l.length
  · rw [if_pos h, if_pos (by omega)]
  · have hn : l.length ≤ 1048576 := by omega
    rw [if_neg h, if_neg (by omega), sz_some m _ hm' (by omega) (by omega)]
    simp only [Option.bind_some]
    by_cases h2 : (1048576 : Int) - l.length < m.length
    · rw [if_pos h2, if_pos (by omega)]
    · have hn2 : m.length ≤ 1048576 := by omega
      rw [if_neg h2, if_neg (by omega), toFactS l hn _ (by omega), toFactS m hn2 _ (by omega)]
      simp only [Option.bind_some]
      have e1 : (l.map to43).length = l.length := List.length_map _
      have e2 : (m.map to43).length = m.length := List.length_map _
      rw [spec_sameF _ _ (by omega) _ (by omega), impl_sameF _ _ (by omega) _ (by omega)]
      simp only [Option.bind_some]
      rw [if_neg (by simp), eqFactS _ (by omega) _ (by omega)]
      simp only [Option.bind_some, if_true]
      rw [eqFactS _ (by omega) _ (by omega)]
      simp
end Go.Proofs.Ytdjomoogldkpfaa.Pure
