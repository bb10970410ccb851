/- Lists of nodes, one and the same, are told to be. -/
import Derived.Test.YtfkanjgfjejgiaaDoorZUvWord
set_option linter.unusedSimpArgs false
set_option linter.unusedVariables false
namespace Go.Proofs.YtfkanjgfjejgiaaDoorE
open Go.Ev Go.RowKit
set_option linter.unusedVariables false
theorem set_at {α : Type} (p : List α) (a v : α) (t : List α) : (p ++ a :: t).set p.length v = p ++ v :: t := by
  rw [List.set_append_right _ _ (Nat.le_refl _), Nat.sub_self, List.set_cons_zero]
theorem eqNode_refl (K : Nat) (a : Nd) : laws_eqNode.f K a a = some true := by simp [laws_eqNode.f]
theorem eqNodeS_l0 (K : Nat) (r : List Nd) : ∀ (k : Nat) (p : List Nd), r.length < k → p.length + r.length ≤ 4000000 → laws_eqNodeS.l0 (p ++ r) (p ++ r) K k p.length = some (.inr ()) := by
  induction r with
  | nil =>
    intro k p hk hl
    obtain ⟨k, rfl⟩ := succ_of hk
    rw [laws_eqNodeS.l0, if_neg (by simp)]
  | cons a r ih =>
    intro k p hk hl
    obtain ⟨k, rfl⟩ := succ_of hk
    simp only [List.length_cons] at hk hl
    have e : w64 ((p.length : Int) + 1) = ((p ++ [a]).length : Int) := by rw [w64_of (by omega) (by omega)]; simp
    rw [laws_eqNodeS.l0, if_pos (by simp; omega), at_mid, Option.bind_some, Option.bind_some, eqNode_refl, Option.bind_some, e]
    have := ih k (p ++ [a]) (by omega) (by simp; omega)
    simpa using this
theorem eqNodeS (x : List Nd) (hn : x.length ≤ 4000000) (K : Nat) (hk : x.length < K) : laws_eqNodeS.f K x x = some true := by
  unfold laws_eqNodeS.f jn
  have q := eqNodeS_l0 K x K [] hk (by simpa using hn)
  rw [show laws_eqNodeS.l0 x x K K 0 = _ from q]
  simp [lb]
end Go.Proofs.YtfkanjgfjejgiaaDoorE
