/- Nodes sized, copied, held against each other, marked, found marked. -/
import Derived.Test.YtfmlamheflbgdaaDoorZUvNode
set_option linter.unusedSimpArgs false
set_option linter.unusedVariables false
namespace Go.Proofs.YtfmlamheflbgdaaDoorE
open Go.Ev
set_option linter.unusedVariables false
def toN (a : laws_Node) : Nd := ⟨a.Kind, a.A, a.B, a.C, a.N, a.Name, a.Other⟩
theorem set_at {α : Type} (p : List α) (a v : α) (t : List α) : (p ++ a :: t).set p.length v = p ++ v :: t := by
  rw [List.set_append_right _ _ (Nat.le_refl _), Nat.sub_self, List.set_cons_zero]
theorem toNodeS_l0 (K : Nat) (r : List laws_Node) : ∀ (k : Nat) (ys : List laws_Node) (ws : List Nd), ws.length = r.length → r.length < k → ys.length + r.length ≤ 1048576 →
    laws_toNodeS.l0 (ys ++ r) K k ys.length (ys.map toN ++ ws) = some ((ys ++ r).map toN) := by
  induction r with
  | nil =>
    intro k ys ws hw hk hl
    obtain ⟨k, rfl⟩ := succ_of hk
    obtain rfl := List.eq_nil_of_length_eq_zero hw
    rw [laws_toNodeS.l0, if_neg (by simp)]
    simp
  | cons a r ih =>
    intro k ys ws hw hk hl
    obtain ⟨k, rfl⟩ := succ_of hk
    simp only [List.length_cons] at hk hl hw
    match ws, hw with
    | w :: ws, hw =>
      have hm : (ys.map toN).length = ys.length := List.length_map _
      have e : w64 ((ys.length : Int) + 1) = ((ys ++ [a]).length : Int) := by rw [w64_of (by omega) (by omega)]; simp
      have am := at_mid (ys.map toN) ws w
      have sm := set_at (ys.map toN) w (toN a) ws
      rw [hm] at am sm
      rw [laws_toNodeS.l0, if_pos (by simp; omega), at_mid, Option.bind_some, laws_toNode.f, Option.bind_some, am, Option.bind_some, e, Int.toNat_natCast]
      rw [show (⟨a.Kind, a.A, a.B, a.C, a.N, a.Name, a.Other⟩ : impl_Node) = toN a from rfl, sm]
      have := ih k (ys ++ [a]) ws (by simpa using hw) (by omega) (by simp; omega)
      simpa using this
theorem toNodeS (l : List laws_Node) (hn : l.length ≤ 1048576) (K : Nat) (hk : l.length < K) : laws_toNodeS.f K l = some (l.map toN) := by
  unfold laws_toNodeS.f jn
  rw [gd_pos (by omega), Int.toNat_natCast]
  have q := toNodeS_l0 K l K [] (List.replicate l.length ⟨0, 0, 0, 0, 0, ⟨#[]⟩, ⟨#[]⟩⟩) (by simp) hk (by simpa using hn)
  rw [show laws_toNodeS.l0 l K K 0 (List.replicate l.length (⟨0, 0, 0, 0, 0, ⟨#[]⟩, ⟨#[]⟩⟩ : impl_Node)) = _ from q]
  rfl
theorem eqNode_refl (K : Nat) (a : Nd) : laws_eqNode.f K a a = some true := by simp [laws_eqNode.f]
theorem eqNodeS_l0 (K : Nat) (r : List Nd) : ∀ (k : Nat) (p : List Nd), r.length < k → p.length + r.length ≤ 4000000 → laws_eqNodeS.l0 (p ++ r) (p ++ r) K k p.length = some (.inr ()) := by
  induction r with
  | nil =>
    intro k p hk hl
    obtain ⟨k, rfl⟩ := succ_of hk
    rw [laws_eqNodeS.l0, if_neg (by simp)]
  | cons a r ih =>
    intro k p hk hl
    obtain ⟨k, rfl⟩ := succ_of hk
    simp only [List.length_cons] at hk hl
    have e : w64 ((p.length : Int) + 1) = ((p ++ [a]).length : Int) := by rw [w64_of (by omega) (by omega)]; simp
    rw [laws_eqNodeS.l0, if_pos (by simp; omega), at_mid, Option.bind_some, Option.bind_some, eqNode_refl, Option.bind_some, e]
    have := ih k (p ++ [a]) (by omega) (by simp; omega)
    simpa using this
theorem eqNodeS (x : List Nd) (hn : x.length ≤ 4000000) (K : Nat) (hk : x.length < K) : laws_eqNodeS.f K x x = some true := by
  unfold laws_eqNodeS.f jn
  have q := eqNodeS_l0 K x K [] hk (by simpa using hn)
  rw [show laws_eqNodeS.l0 x x K K 0 = _ from q]
  simp [lb]
theorem szNodeS_l0 (K : Nat) (r : List laws_Node) : (∀ a ∈ r, a.Name.size ≤ 9223372036854775807 ∧ a.Other.size ≤ 9223372036854775807) → ∀ (k : Nat) (ys : List laws_Node) (n : Int), r.length < k → ys.length + r.length ≤ 1048576 → 0 ≤ n → n ≤ 1048576 →
    ∃ x, laws_szNodeS.l0 (ys ++ r) K k n ys.length = some x ∧ ((∃ m, x = .inl m ∧ m < 0) ∨ (∃ m, x = .inr m) ∧ ∀ a ∈ r, small (toN a)) := by
  induction r with
  | nil =>
    intro hm k ys n hk hl h0 h1
    obtain ⟨k, rfl⟩ := succ_of hk
    exact ⟨.inr n, by rw [laws_szNodeS.l0, if_neg (by simp)], .inr ⟨⟨_, rfl⟩, fun a ha => by cases ha⟩⟩
  | cons a r ih =>
    intro hm k ys n hk hl h0 h1
    obtain ⟨k, rfl⟩ := succ_of hk
    simp only [List.length_cons] at hk hl
    obtain ⟨m5, m6⟩ := hm a (by simp)
    have e : w64 ((ys.length : Int) + 1) = ((ys ++ [a]).length : Int) := by rw [w64_of (by omega) (by omega)]; simp
    rw [laws_szNodeS.l0, if_pos (by simp; omega), at_mid, Option.bind_some, laws_szNode.f, w64_of (x := n - _) (by omega) (by omega)]
    by_cases h5 : n - (a.Name.size : Int) < 0
    · rw [if_pos h5]
      exact ⟨.inl (-1), rfl, .inl ⟨-1, rfl, by omega⟩⟩
    · rw [if_neg h5, w64_of (x := n - (a.Name.size : Int) - _) (by omega) (by omega)]
      by_cases h6 : n - (a.Name.size : Int) - (a.Other.size : Int) < 0
      · rw [if_pos h6]
        exact ⟨.inl (-1), rfl, .inl ⟨-1, rfl, by omega⟩⟩
      · rw [if_neg h6, Option.bind_some, if_neg h6, e, show ys ++ a :: r = (ys ++ [a]) ++ r by simp]
        obtain ⟨x, hx, hc⟩ := ih (fun y hy => hm y (by simp [hy])) k (ys ++ [a]) (n - (a.Name.size : Int) - (a.Other.size : Int)) (by omega) (by simp; omega) (by omega) (by omega)
        refine ⟨x, hx, hc.imp _root_.id fun ⟨h, q⟩ => ⟨h, fun y hy => ?_⟩⟩
        cases hy with
        | head => exact ⟨by show a.Name.size ≤ _; omega, by show a.Other.size ≤ _; omega⟩
        | tail _ hy => exact q y hy
/-- Sized: less than nothing is left, or the list and its texts are of a size that is there. -/
theorem szNodeS (l : List laws_Node) (hl : l.length ≤ 9223372036854775807) (hm : ∀ a ∈ l, a.Name.size ≤ 9223372036854775807 ∧ a.Other.size ≤ 9223372036854775807) (K : Nat) (hk : 1048580 ≤ K) :
    ∃ r, laws_szNodeS.f K l 1048576 = some r ∧ (r < 0 ∨ l.length ≤ 1048576 ∧ ∀ n ∈ l.map toN, small n) := by
  unfold laws_szNodeS.f jn
  rw [w64_of (by omega) (by omega)]
  by_cases h : (1048576 : Int) - (l.length : Int) < 0
  · rw [if_pos h]
    exact ⟨-1, rfl, .inl (by omega)⟩
  · rw [if_neg h]
    obtain ⟨x, hx, hc⟩ := szNodeS_l0 K l hm K [] (1048576 - (l.length : Int)) (by omega) (by simp; omega) (by omega) (by omega)
    rw [show laws_szNodeS.l0 l K K (1048576 - (l.length : Int)) 0 = _ from hx]
    rcases hc with ⟨m, rfl, hm⟩ | ⟨⟨m, rfl⟩, q⟩
    · exact ⟨m, rfl, .inl hm⟩
    · exact ⟨m, rfl, .inr ⟨by omega, fun n hn => by
        obtain ⟨a, ha, rfl⟩ := List.mem_map.1 hn
        exact q a ha⟩⟩
end Go.Proofs.YtfmlamheflbgdaaDoorE
