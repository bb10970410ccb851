/- Which nodes are right by themselves: the program's and the reference's tests come to one function. -/
import Derived.Test.YtfkanjgfjejgiaaGreatDoorZUvWord
set_option linter.unusedSimpArgs false
set_option linter.unusedVariables false
namespace Go.Proofs.YtfkanjgfjejgiaaGreatDoorE
open Go.Ev
set_option linter.unusedVariables false

/-! ### kinds -/
def arityN (k : Int) : Nat :=
  if k = 3 ∨ k = 10 ∨ k = 11 ∨ k = 15 ∨ k = 16 ∨ k = 18 then 1 else if k = 4 ∨ k = 5 ∨ k = 6 ∨ k = 8 ∨ k = 9 ∨ k = 13 ∨ k = 17 ∨ k = 19 then 2 else if k = 7 ∨ k = 14 then 3 else 0
theorem arity_le (k : Int) : arityN k ≤ 3 := by
  unfold arityN
  split
  · omega
  · split
    · omega
    · split <;> omega
theorem impl_arity (K : Nat) (a : Int) : impl_Arity.f K a = some (arityN a : Int) := by
  unfold impl_Arity.f arityN jn
  by_cases h3 : a = 3
  · subst h3; simp
  by_cases h10 : a = 10
  · subst h10; simp
  by_cases h11 : a = 11
  · subst h11; simp
  by_cases h15 : a = 15
  · subst h15; simp
  by_cases h16 : a = 16
  · subst h16; simp
  by_cases h18 : a = 18
  · subst h18; simp
  by_cases h4 : a = 4
  · subst h4; simp
  by_cases h5 : a = 5
  · subst h5; simp
  by_cases h6 : a = 6
  · subst h6; simp
  by_cases h8 : a = 8
  · subst h8; simp
  by_cases h9 : a = 9
  · subst h9; simp
  by_cases h13 : a = 13
  · subst h13; simp
  by_cases h17 : a = 17
  · subst h17; simp
  by_cases h19 : a = 19
  · subst h19; simp
  by_cases h7 : a = 7
  · subst h7; simp
  by_cases h14 : a = 14
  · subst h14; simp
  simp [h3, h10, h11, h15, h16, h18, h4, h5, h6, h8, h9, h13, h17, h19, h7, h14]
theorem spec_arity (K : Nat) (a : Int) : spec_Arity.f K a = some (arityN a : Int) := impl_arity K a
def namesN (k : Int) : Nat := if k = 1 ∨ k = 3 ∨ k = 5 ∨ k = 19 then 1 else if k = 6 ∨ k = 14 then 2 else 0
theorem impl_names (K : Nat) (a : Int) : impl_namesOf.f K a = some (namesN a : Int) := by
  unfold impl_namesOf.f namesN jn
  by_cases h1 : a = 1
  · subst h1; simp
  by_cases h3 : a = 3
  · subst h3; simp
  by_cases h5 : a = 5
  · subst h5; simp
  by_cases h19 : a = 19
  · subst h19; simp
  by_cases h6 : a = 6
  · subst h6; simp
  by_cases h14 : a = 14
  · subst h14; simp
  simp [h1, h3, h5, h19, h6, h14]
theorem spec_names (K : Nat) (a : Int) : spec_l3Names.f K a = some (namesN a : Int) := impl_names K a

/-! ### kids -/
def kids (n : Nd) : List Int := [n.A, n.B, n.C].take (arityN n.Kind)
theorem kids_len (n : Nd) : (kids n).length = arityN n.Kind := by
  unfold kids
  have := arity_le n.Kind
  simp
  omega
theorem impl_kids (K : Nat) (n : Nd) : impl_Kids.f K n = some (kids n) := by
  unfold impl_Kids.f kids
  rw [impl_arity K]
  have := arity_le n.Kind
  simp only [Option.bind_some, List.length_cons, List.length_nil]
  rw [gd_pos (by omega), Int.toNat_natCast]
theorem spec_kids (K : Nat) (n : Nd) : spec_Kids.f K n = some (kids n) := by
  unfold spec_Kids.f kids
  rw [spec_arity K]
  have := arity_le n.Kind
  simp only [Option.bind_some, List.length_cons, List.length_nil]
  rw [gd_pos (by omega), Int.toNat_natCast]

def nameB (s : ByteArray) : Bool := wordB s && !keyB s
theorem impl_name (s : ByteArray) (hn : s.size ≤ 9223372036854775806) (K : Nat) (hk : s.size + 20 < K) : impl_isName.f K s = some (nameB s) := by
  unfold impl_isName.f nameB
  rw [impl_word s hn K (by omega), Option.bind_some, impl_key s K (by omega)]
  cases wordB s <;> rfl
theorem spec_name (s : ByteArray) (hn : s.size ≤ 9223372036854775806) (K : Nat) (hk : s.size + 20 < K) : spec_l3Name.f K s = some (nameB s) := by
  unfold spec_l3Name.f nameB
  rw [spec_word s hn K (by omega), Option.bind_some, spec_key s K (by omega)]
  cases wordB s <;> rfl
theorem nameB_empty {s : ByteArray} (h : s.toList = []) : nameB s = false := by
  have hs : s.size = 0 := by
    have e := congrArg List.length h
    rw [Lib.toList_data] at e
    simpa using e
  unfold nameB wordB
  rw [hs]
  simp [inB]

/-! ### fields -/
def fitsB (s : ByteArray) (b : Bool) : Bool := if b = true then nameB s else (s.toList == ([] : List UInt8))
theorem impl_fits (s : ByteArray) (b : Bool) (hn : s.size ≤ 9223372036854775806) (K : Nat) (hk : s.size + 20 < K) : impl_nameFits.f K s b = some (fitsB s b) := by
  unfold impl_nameFits.f fitsB
  cases b
  · simp [empty_l]
  · simp [impl_name s hn K hk]
def restB (n : Nd) : Bool := if n.Kind = 2 then inB n.N 0 65535 else if n.Kind = 8 then inB n.N 0 3 else decide (n.N = 0)
def noKids (n : Nd) : Bool := (decide (1 ≤ arityN n.Kind) || decide (n.A = 0)) && ((decide (2 ≤ arityN n.Kind) || decide (n.B = 0)) && (decide (3 ≤ arityN n.Kind) || decide (n.C = 0)))
def fieldsB (n : Nd) : Bool := inB n.Kind 1 19 && (fitsB n.Name (decide (0 < namesN n.Kind)) && (fitsB n.Other (decide (1 < namesN n.Kind)) && (noKids n && restB n)))
/-- Each text of a node is of a size that is there. -/
def small (n : Nd) : Prop := n.Name.size ≤ 1048576 ∧ n.Other.size ≤ 1048576
def big : Nat := 2000000
theorem fields_l0 (n : Nd) (K k : Nat) (hk : 4 ≤ k) : impl_fieldsOk.l0 n K k 0 = some (if noKids n = true then .inr () else .inl false) := by
  obtain ⟨k, rfl⟩ : ∃ m, k = m + 4 := ⟨k - 4, by omega⟩
  have e0 : w64 (0 + 1) = 1 := w64_of (by omega) (by omega)
  have e1 : w64 (1 + 1) = 2 := w64_of (by omega) (by omega)
  have e2 : w64 (2 + 1) = 3 := w64_of (by omega) (by omega)
  have a := arity_le n.Kind
  simp only [impl_fieldsOk.l0, jn, impl_arity, Option.bind_some, at_, e0, e1, e2]
  simp (config := { decide := true }) only [if_true, Int.toNat_zero, Int.toNat_one, List.getElem?_cons_zero, List.getElem?_cons_succ, Option.bind_some]
  unfold noKids
  rcases (by omega : arityN n.Kind = 0 ∨ arityN n.Kind = 1 ∨ arityN n.Kind = 2 ∨ arityN n.Kind = 3) with h | h | h | h <;> rw [h] <;>
    by_cases hA : n.A = 0 <;> by_cases hB : n.B = 0 <;> by_cases hC : n.C = 0 <;> simp [hA, hB, hC]
theorem impl_fields (n : Nd) (hs : small n) (K : Nat) (hk : big ≤ K) : impl_fieldsOk.f K n = some (fieldsB n) := by
  unfold big at hk
  obtain ⟨h1, h2⟩ := hs
  unfold impl_fieldsOk.f fieldsB jn
  simp only [impl_inB, impl_names, impl_fits n.Name _ (by omega) K (by omega), impl_fits n.Other _ (by omega) K (by omega), Option.bind_some]
  rw [fields_l0 n K K (by omega)]
  have p1 : decide ((namesN n.Kind : Int) > 0) = decide (0 < namesN n.Kind) := by simp
  have p2 : decide ((namesN n.Kind : Int) > 1) = decide (1 < namesN n.Kind) := by simp; omega
  rw [p1, p2]
  cases inB n.Kind 1 19
  · rfl
  cases fitsB n.Name (decide (0 < namesN n.Kind))
  · rfl
  cases fitsB n.Other (decide (1 < namesN n.Kind))
  · rfl
  cases noKids n
  · rfl
  unfold restB
  by_cases hk2 : n.Kind = 2
  · simp [lb, hk2]
  · by_cases hk8 : n.Kind = 8
    · simp [lb, hk8]
    · simp [lb, hk2, hk8]
end Go.Proofs.YtfkanjgfjejgiaaGreatDoorE
