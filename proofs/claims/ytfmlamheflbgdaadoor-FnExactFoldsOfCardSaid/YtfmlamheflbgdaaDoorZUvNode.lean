/- Which nodes are right by themselves: the program's and the reference's tests come to one function. -/
import Derived.Test.YtfmlamheflbgdaaDoorZT2
import Derived.Test.YtfmlamheflbgdaaDoorEvPure
import Derived.KernelRfl
import Derived.Lib.Strings
set_option linter.unusedSimpArgs false
set_option linter.unusedVariables false
namespace Go.Proofs.YtfmlamheflbgdaaDoorE
open Go.Ev
set_option linter.unusedVariables false
abbrev Nd := impl_Node

/-! ### kinds -/
def arityN (k : Int) : Nat :=
  if k = 3 ∨ k = 10 ∨ k = 11 ∨ k = 15 ∨ k = 16 ∨ k = 18 then 1 else if k = 4 ∨ k = 5 ∨ k = 6 ∨ k = 8 ∨ k = 9 ∨ k = 13 ∨ k = 17 ∨ k = 19 then 2 else if k = 7 ∨ k = 14 then 3 else 0
theorem arity_le (k : Int) : arityN k ≤ 3 := by
  unfold arityN
  split
  · omega
  · split
    · omega
    · split <;> omega
theorem impl_arity (K : Nat) (a : Int) : impl_Arity.f K a = some (arityN a : Int) := by
  unfold impl_Arity.f arityN jn
  by_cases h3 : a = 3
  · subst h3; simp
  by_cases h10 : a = 10
  · subst h10; simp
  by_cases h11 : a = 11
  · subst h11; simp
  by_cases h15 : a = 15
  · subst h15; simp
  by_cases h16 : a = 16
  · subst h16; simp
  by_cases h18 : a = 18
  · subst h18; simp
  by_cases h4 : a = 4
  · subst h4; simp
  by_cases h5 : a = 5
  · subst h5; simp
  by_cases h6 : a = 6
  · subst h6; simp
  by_cases h8 : a = 8
  · subst h8; simp
  by_cases h9 : a = 9
  · subst h9; simp
  by_cases h13 : a = 13
  · subst h13; simp
  by_cases h17 : a = 17
  · subst h17; simp
  by_cases h19 : a = 19
  · subst h19; simp
  by_cases h7 : a = 7
  · subst h7; simp
  by_cases h14 : a = 14
  · subst h14; simp
  simp [h3, h10, h11, h15, h16, h18, h4, h5, h6, h8, h9, h13, h17, h19, h7, h14]
theorem spec_arity (K : Nat) (a : Int) : spec_Arity.f K a = some (arityN a : Int) := impl_arity K a
def namesN (k : Int) : Nat := if k = 1 ∨ k = 3 ∨ k = 5 ∨ k = 19 then 1 else if k = 6 ∨ k = 14 then 2 else 0
theorem impl_names (K : Nat) (a : Int) : impl_namesOf.f K a = some (namesN a : Int) := by
  unfold impl_namesOf.f namesN jn
  by_cases h1 : a = 1
  · subst h1; simp
  by_cases h3 : a = 3
  · subst h3; simp
  by_cases h5 : a = 5
  · subst h5; simp
  by_cases h19 : a = 19
  · subst h19; simp
  by_cases h6 : a = 6
  · subst h6; simp
  by_cases h14 : a = 14
  · subst h14; simp
  simp [h1, h3, h5, h19, h6, h14]
theorem spec_names (K : Nat) (a : Int) : spec_l3Names.f K a = some (namesN a : Int) := impl_names K a

/-! ### kids -/
def kids (n : Nd) : List Int := [n.A, n.B, n.C].take (arityN n.Kind)
theorem kids_len (n : Nd) : (kids n).length = arityN n.Kind := by
  unfold kids
  have := arity_le n.Kind
  simp
  omega
theorem impl_kids (K : Nat) (n : Nd) : impl_Kids.f K n = some (kids n) := by
  unfold impl_Kids.f kids
  rw [impl_arity K]
  have := arity_le n.Kind
  simp only [Option.bind_some, List.length_cons, List.length_nil]
  rw [gd_pos (by omega), Int.toNat_natCast]
theorem spec_kids (K : Nat) (n : Nd) : spec_Kids.f K n = some (kids n) := by
  unfold spec_Kids.f kids
  rw [spec_arity K]
  have := arity_le n.Kind
  simp only [Option.bind_some, List.length_cons, List.length_nil]
  rw [gd_pos (by omega), Int.toNat_natCast]

/-! ### words and keys -/
def inB (a b c : Int) : Bool := decide (b ≤ a) && decide (a ≤ c)
theorem impl_inB (K : Nat) (a b c : Int) : impl_in.f K a b c = some (inB a b c) := by
  unfold impl_in.f inB
  by_cases h : b ≤ a
  · rw [if_pos h]; simp [h]
  · rw [if_neg h]; simp [h]
theorem spec_inB (K : Nat) (a b c : Int) : spec_l1In.f K a b c = some (inB a b c) := impl_inB K a b c
def wordFrom (s : ByteArray) : Nat → Nat → Bool
  | 0, _ => true
  | d + 1, i => if h : i < s.size then (if inB (s[i].toNat : Int) 97 122 = true then wordFrom s d (i + 1) else false) else true
def wordB (s : ByteArray) : Bool := wordFrom s s.size 0 && inB (s.size : Int) 1 8
theorem impl_word_l0 (s : ByteArray) (hn : s.size ≤ 9223372036854775806) (K d : Nat) : ∀ (k i : Nat), i + d = s.size → d < k → impl_IsWord.l0 s K k i = some (if wordFrom s d i = true then .inr () else .inl false) := by
  induction d with
  | zero =>
    intro k i hi hk
    obtain ⟨k, rfl⟩ := succ_of hk
    rw [impl_IsWord.l0, if_neg (by omega)]
    rfl
  | succ d ih =>
    intro k i hi hk
    obtain ⟨k, rfl⟩ := succ_of hk
    have hl : i < s.size := by omega
    rw [impl_IsWord.l0, if_pos (by omega), wordFrom, dif_pos hl]
    simp only [jn, atS_nat s i hl, Option.bind_some]
    have e : w64 ((i : Int) + 1) = ((i + 1 : Nat) : Int) := by rw [w64_of (by omega) (by omega)]; omega
    rw [e, ih k (i + 1) (by omega) (by omega)]
    unfold inB
    by_cases h1 : (s[i].toNat : Int) < 97
    · rw [if_pos h1]; simp; omega
    · by_cases h2 : (s[i].toNat : Int) > 122
      · rw [if_neg h1]; simp [h2]; omega
      · rw [if_neg h1]
        simp only [h2, decide_false, Bool.false_eq_true, if_false]
        rw [if_pos (c := (_ && _) = true) (by simp; omega)]
theorem impl_word (s : ByteArray) (hn : s.size ≤ 9223372036854775806) (K : Nat) (hk : s.size < K) : impl_IsWord.f K s = some (wordB s) := by
  unfold impl_IsWord.f wordB jn
  rw [show (0 : Int) = ((0 : Nat) : Int) from rfl, impl_word_l0 s hn K s.size K 0 (by omega) hk, impl_inB]
  cases wordFrom s s.size 0 <;> rfl
theorem spec_word_l0 (s : ByteArray) (hn : s.size ≤ 9223372036854775806) (K d : Nat) : ∀ (k i : Nat), i + d = s.size → d < k → spec_IsWord.l0 s K k i = some (if wordFrom s d i = true then .inr () else .inl false) := by
  induction d with
  | zero =>
    intro k i hi hk
    obtain ⟨k, rfl⟩ := succ_of hk
    rw [spec_IsWord.l0, if_neg (by omega)]
    rfl
  | succ d ih =>
    intro k i hi hk
    obtain ⟨k, rfl⟩ := succ_of hk
    have hl : i < s.size := by omega
    rw [spec_IsWord.l0, if_pos (by omega), wordFrom, dif_pos hl]
    have e : w64 ((i : Int) + 1) = ((i + 1 : Nat) : Int) := by rw [w64_of (by omega) (by omega)]; omega
    have q : spec_l2Letter.f K (s[i].toNat : Int) = some (inB (s[i].toNat : Int) 97 122) := spec_inB K _ _ _
    simp only [atS_nat s i hl, Option.bind_some, q]
    rw [e, ih k (i + 1) (by omega) (by omega)]
    cases inB (s[i].toNat : Int) 97 122 <;> simp
theorem spec_word (s : ByteArray) (hn : s.size ≤ 9223372036854775806) (K : Nat) (hk : s.size < K) : spec_IsWord.f K s = some (wordB s) := by
  unfold spec_IsWord.f wordB jn
  rw [show (0 : Int) = ((0 : Nat) : Int) from rfl, spec_word_l0 s hn K s.size K 0 (by omega) hk, spec_inB]
  cases wordFrom s s.size 0 <;> rfl

def keysL : List ByteArray := (spec_l3Keys.f 0).getD []
theorem keys_len : keysL.length = 20 := rfl
theorem spec_keys (K : Nat) : spec_l3Keys.f K = some keysL := rfl
def keyFrom (s : ByteArray) : List ByteArray → Bool
  | [] => false
  | x :: r => x.toList == s.toList || keyFrom s r
def keyB (s : ByteArray) : Bool := keyFrom s keysL
theorem impl_key_l0 (s : ByteArray) (K : Nat) (r : List ByteArray) : ∀ (k : Nat) (p : List ByteArray), p.length + r.length ≤ 1000 → r.length < k → impl_IsKey.l0 s (p ++ r) K k p.length = some (if keyFrom s r = true then .inl true else .inr ()) := by
  induction r with
  | nil =>
    intro k p hi hk
    obtain ⟨k, rfl⟩ := succ_of hk
    rw [impl_IsKey.l0, if_neg (by simp)]
    rfl
  | cons x r ih =>
    intro k p hi hk
    obtain ⟨k, rfl⟩ := succ_of hk
    simp only [List.length_cons] at hi hk
    rw [impl_IsKey.l0, if_pos (by simp; omega), at_mid, keyFrom]
    have e : w64 ((p.length : Int) + 1) = ((p ++ [x]).length : Int) := by rw [w64_of (by omega) (by omega)]; simp
    rw [Option.bind_some, e, show p ++ x :: r = (p ++ [x]) ++ r by simp, ih k (p ++ [x]) (by simp; omega) (by omega)]
    cases x.toList == s.toList <;> simp
theorem spec_key_l0 (s : ByteArray) (y : List ByteArray) (K : Nat) : ∀ (k : Nat) (i : Int), spec_IsKey.l0 s y K k i = impl_IsKey.l0 s y K k i := by
  intro k
  induction k with
  | zero => intro i; rfl
  | succ k ih => intro i; rw [spec_IsKey.l0, impl_IsKey.l0]; simp only [ih]
theorem split_keys (K : Nat) (s : ByteArray) : impl_IsKey.f K s = lb (impl_IsKey.l0 s keysL K K 0) (fun r => some r) (fun _ => some false) := by
  unfold impl_IsKey.f jn
  rw [show strings_Split.f _ _ = some keysL from by kernel_rfl]
  rfl
theorem impl_key (s : ByteArray) (K : Nat) (hk : 20 < K) : impl_IsKey.f K s = some (keyB s) := by
  have e := impl_key_l0 s K keysL K [] (by simp [keys_len]) (by rw [keys_len]; exact hk)
  rw [List.nil_append] at e
  rw [split_keys, show (0 : Int) = (([] : List ByteArray).length : Int) from rfl, e, keyB]
  cases keyFrom s keysL <;> rfl
theorem spec_key (s : ByteArray) (K : Nat) (hk : 20 < K) : spec_IsKey.f K s = some (keyB s) := by
  rw [← impl_key s K hk, split_keys]
  unfold spec_IsKey.f jn
  rw [spec_keys, Option.bind_some, spec_key_l0]
def nameB (s : ByteArray) : Bool := wordB s && !keyB s
theorem impl_name (s : ByteArray) (hn : s.size ≤ 9223372036854775806) (K : Nat) (hk : s.size + 20 < K) : impl_isName.f K s = some (nameB s) := by
  unfold impl_isName.f nameB
  rw [impl_word s hn K (by omega), Option.bind_some, impl_key s K (by omega)]
  cases wordB s <;> rfl
theorem spec_name (s : ByteArray) (hn : s.size ≤ 9223372036854775806) (K : Nat) (hk : s.size + 20 < K) : spec_l3Name.f K s = some (nameB s) := by
  unfold spec_l3Name.f nameB
  rw [spec_word s hn K (by omega), Option.bind_some, spec_key s K (by omega)]
  cases wordB s <;> rfl
theorem nameB_empty {s : ByteArray} (h : s.toList = []) : nameB s = false := by
  have hs : s.size = 0 := by
    have e := congrArg List.length h
    rw [Lib.toList_data] at e
    simpa using e
  unfold nameB wordB
  rw [hs]
  simp [inB]

/-! ### fields -/
def fitsB (s : ByteArray) (b : Bool) : Bool := if b = true then nameB s else (s.toList == ([] : List UInt8))
theorem empty_l : (⟨#[]⟩ : ByteArray).toList = [] := by rw [Lib.toList_data]
theorem impl_fits (s : ByteArray) (b : Bool) (hn : s.size ≤ 9223372036854775806) (K : Nat) (hk : s.size + 20 < K) : impl_nameFits.f K s b = some (fitsB s b) := by
  unfold impl_nameFits.f fitsB
  cases b
  · simp [empty_l]
  · simp [impl_name s hn K hk]
def restB (n : Nd) : Bool := if n.Kind = 2 then inB n.N 0 65535 else if n.Kind = 8 then inB n.N 0 3 else decide (n.N = 0)
def noKids (n : Nd) : Bool := (decide (1 ≤ arityN n.Kind) || decide (n.A = 0)) && ((decide (2 ≤ arityN n.Kind) || decide (n.B = 0)) && (decide (3 ≤ arityN n.Kind) || decide (n.C = 0)))
def fieldsB (n : Nd) : Bool := inB n.Kind 1 19 && (fitsB n.Name (decide (0 < namesN n.Kind)) && (fitsB n.Other (decide (1 < namesN n.Kind)) && (noKids n && restB n)))
/-- Each text of a node is of a size that is there. -/
def small (n : Nd) : Prop := n.Name.size ≤ 1048576 ∧ n.Other.size ≤ 1048576
def big : Nat := 2000000
theorem fields_l0 (n : Nd) (K k : Nat) (hk : 4 ≤ k) : impl_fieldsOk.l0 n K k 0 = some (if noKids n = true then .inr () else .inl false) := by
  obtain ⟨k, rfl⟩ : ∃ m, k = m + 4 := ⟨k - 4, by omega⟩
  have e0 : w64 (0 + 1) = 1 := w64_of (by omega) (by omega)
  have e1 : w64 (1 + 1) = 2 := w64_of (by omega) (by omega)
  have e2 : w64 (2 + 1) = 3 := w64_of (by omega) (by omega)
  have a := arity_le n.Kind
  simp only [impl_fieldsOk.l0, jn, impl_arity, Option.bind_some, at_, e0, e1, e2]
  simp (config := { decide := true }) only [if_true, Int.toNat_zero, Int.toNat_one, List.getElem?_cons_zero, List.getElem?_cons_succ, Option.bind_some]
  unfold noKids
  rcases (by omega : arityN n.Kind = 0 ∨ arityN n.Kind = 1 ∨ arityN n.Kind = 2 ∨ arityN n.Kind = 3) with h | h | h | h <;> rw [h] <;>
    by_cases hA : n.A = 0 <;> by_cases hB : n.B = 0 <;> by_cases hC : n.C = 0 <;> simp [hA, hB, hC]
theorem impl_fields (n : Nd) (hs : small n) (K : Nat) (hk : big ≤ K) : impl_fieldsOk.f K n = some (fieldsB n) := by
  unfold big at hk
  obtain ⟨h1, h2⟩ := hs
  unfold impl_fieldsOk.f fieldsB jn
  simp only [impl_inB, impl_names, impl_fits n.Name _ (by omega) K (by omega), impl_fits n.Other _ (by omega) K (by omega), Option.bind_some]
  rw [fields_l0 n K K (by omega)]
  have p1 : decide ((namesN n.Kind : Int) > 0) = decide (0 < namesN n.Kind) := by simp
  have p2 : decide ((namesN n.Kind : Int) > 1) = decide (1 < namesN n.Kind) := by simp; omega
  rw [p1, p2]
  cases inB n.Kind 1 19
  · rfl
  cases fitsB n.Name (decide (0 < namesN n.Kind))
  · rfl
  cases fitsB n.Other (decide (1 < namesN n.Kind))
  · rfl
  cases noKids n
  · rfl
  unfold restB
  by_cases hk2 : n.Kind = 2
  · simp [lb, hk2]
  · by_cases hk8 : n.Kind = 8
    · simp [lb, hk8]
    · simp [lb, hk2, hk8]
end Go.Proofs.YtfmlamheflbgdaaDoorE
