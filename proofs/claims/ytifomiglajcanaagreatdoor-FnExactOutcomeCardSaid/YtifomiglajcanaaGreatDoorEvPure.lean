/- The evaluator: EvPure. -/
import Derived.Test.YtifomiglajcanaaGreatDoorEvG
set_option linter.unusedSimpArgs false
set_option linter.unusedVariables false
namespace Go.Ev
set_option linter.unusedVariables false

/-! ### For the pure parts: what holds from some number on, and how the words of the printed functions come out. -/
theorem w64_of {x : Int} (h0 : -9223372036854775808 ≤ x) (h1 : x ≤ 9223372036854775807) : w64 x = x := by
  show (if IntKind.i64.signed && x % (2 ^ IntKind.i64.bits : Int) ≥ (2 ^ (IntKind.i64.bits - 1) : Int) then x % (2 ^ IntKind.i64.bits : Int) - (2 ^ IntKind.i64.bits : Int) else x % (2 ^ IntKind.i64.bits : Int)) = x
  have e1 : IntKind.i64.bits = 64 := rfl
  have e2 : IntKind.i64.signed = true := rfl
  rw [e1, e2]
  simp only [Bool.true_and, decide_eq_true_eq]
  split <;> omega
theorem at_nat {α : Type} (l : List α) (i : Nat) : at_ l (i : Int) = l[i]? := by
  unfold at_; rw [if_pos (by omega), Int.toNat_natCast]
theorem at_in {α : Type} (l : List α) (i : Nat) (h : i < l.length) : at_ l (i : Int) = some l[i] := by
  rw [at_nat, List.getElem?_eq_getElem h]
theorem at_mid {α : Type} (p r : List α) (x : α) : at_ (p ++ x :: r) (p.length : Int) = some x := by
  rw [at_nat]; simp
theorem gd_pos {ρ : Type} {c : Prop} [Decidable c] {x : Option ρ} (h : c) : gd c x = x := if_pos h
theorem atS_nat (s : ByteArray) (i : Nat) (h : i < s.size) : atS s (i : Int) = some s[i] := by
  unfold atS
  rw [Int.toNat_natCast, show decide (0 ≤ (i : Int)) = true by simp]
  simp [h]
theorem succ_of {d k : Nat} (h : d < k) : ∃ m, k = m + 1 := ⟨k - 1, by omega⟩

/-- From some number on. -/
def Lg (p : Nat → Prop) : Prop := ∃ N, ∀ K, N ≤ K → p K
theorem Lg.mk {p : Nat → Prop} (N : Nat) (h : ∀ K, N ≤ K → p K) : Lg p := ⟨N, h⟩
theorem Lg.const {p : Nat → Prop} (h : ∀ K, p K) : Lg p := ⟨0, fun K _ => h K⟩
theorem Lg.and {p q : Nat → Prop} (a : Lg p) (b : Lg q) : Lg fun K => p K ∧ q K := by
  obtain ⟨N, a⟩ := a
  obtain ⟨M, b⟩ := b
  exact ⟨N + M, fun K h => ⟨a K (by omega), b K (by omega)⟩⟩
theorem Lg.imp {p q : Nat → Prop} (a : Lg p) (h : ∀ K, p K → q K) : Lg q := by
  obtain ⟨N, a⟩ := a
  exact ⟨N, fun K k => h K (a K k)⟩
theorem Lg.ge (n : Nat) : Lg fun K => n ≤ K := ⟨n, fun _ h => h⟩
theorem Lg.list {α : Type} {p : α → Nat → Prop} : ∀ {l : List α}, (∀ x ∈ l, Lg (p x)) → Lg fun K => ∀ x ∈ l, p x K
  | [], _ => .const fun _ _ h => by cases h
  | y :: l, h => ((h y (by simp)).and (Lg.list (l := l) fun x hx => h x (by simp [hx]))).imp fun K q x hx => by
      cases hx with
      | head => exact q.1
      | tail _ hx => exact q.2 x hx
theorem Lg.ex {p : Nat → Prop} (a : Lg p) : ∃ K, p K := by
  obtain ⟨N, a⟩ := a
  exact ⟨N, a N (Nat.le_refl _)⟩
end Go.Ev
