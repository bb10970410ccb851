/- Words and key words: the program's and the reference's tests come to one function. -/
import Derived.Test.YtfkanjgfjejgiaaGreatDoorZA
import Derived.Test.YtfkanjgfjejgiaaGreatDoorEvPure
import Derived.KernelRfl
import Derived.Lib.Strings
set_option linter.unusedSimpArgs false
set_option linter.unusedVariables false
namespace Go.Proofs.YtfkanjgfjejgiaaGreatDoorE
open Go.Ev
set_option linter.unusedVariables false
abbrev Nd := impl_Node

/-! ### words and keys -/
def inB (a b c : Int) : Bool := decide (b ≤ a) && decide (a ≤ c)
theorem impl_inB (K : Nat) (a b c : Int) : impl_in.f K a b c = some (inB a b c) := by
  unfold impl_in.f inB
  by_cases h : b ≤ a
  · rw [if_pos h]; simp [h]
  · rw [if_neg h]; simp [h]
theorem spec_inB (K : Nat) (a b c : Int) : spec_l1In.f K a b c = some (inB a b c) := impl_inB K a b c
def wordFrom (s : ByteArray) : Nat → Nat → Bool
  | 0, _ => true
  | d + 1, i => if h : i < s.size then (if inB (s[i].toNat : Int) 97 122 = true then wordFrom s d (i + 1) else false) else true
def wordB (s : ByteArray) : Bool := wordFrom s s.size 0 && inB (s.size : Int) 1 8
theorem impl_word_l0 (s : ByteArray) (hn : s.size ≤ 9223372036854775806) (K d : Nat) : ∀ (k i : Nat), i + d = s.size → d < k → impl_IsWord.l0 s K k i = some (if wordFrom s d i = true then .inr () else .inl false) := by
  induction d with
  | zero =>
    intro k i hi hk
    obtain ⟨k, rfl⟩ := succ_of hk
    rw [impl_IsWord.l0, if_neg (by omega)]
    rfl
  | succ d ih =>
    intro k i hi hk
    obtain ⟨k, rfl⟩ := succ_of hk
    have hl : i < s.size := by omega
    rw [impl_IsWord.l0, if_pos (by omega), wordFrom, dif_pos hl]
    simp only [jn, atS_nat s i hl, Option.bind_some]
    have e : w64 ((i : Int) + 1) = ((i + 1 : Nat) : Int) := by rw [w64_of (by omega) (by omega)]; omega
    rw [e, ih k (i + 1) (by omega) (by omega)]
    unfold inB
    by_cases h1 : (s[i].toNat : Int) < 97
    · rw [if_pos h1]; simp; omega
    · by_cases h2 : (s[i].toNat : Int) > 122
      · rw [if_neg h1]; simp [h2]; omega
      · rw [if_neg h1]
        simp only [h2, decide_false, Bool.false_eq_true, if_false]
        rw [if_pos (c := (_ && _) = true) (by simp; omega)]
theorem impl_word (s : ByteArray) (hn : s.size ≤ 9223372036854775806) (K : Nat) (hk : s.size < K) : impl_IsWord.f K s = some (wordB s) := by
  unfold impl_IsWord.f wordB jn
  rw [show (0 : Int) = ((0 : Nat) : Int) from rfl, impl_word_l0 s hn K s.size K 0 (by omega) hk, impl_inB]
  cases wordFrom s s.size 0 <;> rfl
theorem spec_word_l0 (s : ByteArray) (hn : s.size ≤ 9223372036854775806) (K d : Nat) : ∀ (k i : Nat), i + d = s.size → d < k → spec_IsWord.l0 s K k i = some (if wordFrom s d i = true then .inr () else .inl false) := by
  induction d with
  | zero =>
    intro k i hi hk
    obtain ⟨k, rfl⟩ := succ_of hk
    rw [spec_IsWord.l0, if_neg (by omega)]
    rfl
  | succ d ih =>
    intro k i hi hk
    obtain ⟨k, rfl⟩ := succ_of hk
    have hl : i < s.size := by omega
    rw [spec_IsWord.l0, if_pos (by omega), wordFrom, dif_pos hl]
    have e : w64 ((i : Int) + 1) = ((i + 1 : Nat) : Int) := by rw [w64_of (by omega) (by omega)]; omega
    have q : spec_l2Letter.f K (s[i].toNat : Int) = some (inB (s[i].toNat : Int) 97 122) := spec_inB K _ _ _
    simp only [atS_nat s i hl, Option.bind_some, q]
    rw [e, ih k (i + 1) (by omega) (by omega)]
    cases inB (s[i].toNat : Int) 97 122 <;> simp
theorem spec_word (s : ByteArray) (hn : s.size ≤ 9223372036854775806) (K : Nat) (hk : s.size < K) : spec_IsWord.f K s = some (wordB s) := by
  unfold spec_IsWord.f wordB jn
  rw [show (0 : Int) = ((0 : Nat) : Int) from rfl, spec_word_l0 s hn K s.size K 0 (by omega) hk, spec_inB]
  cases wordFrom s s.size 0 <;> rfl

def keysL : List ByteArray := (spec_l3Keys.f 0).getD []
theorem keys_len : keysL.length = 20 := rfl
theorem spec_keys (K : Nat) : spec_l3Keys.f K = some keysL := rfl
def keyFrom (s : ByteArray) : List ByteArray → Bool
  | [] => false
  | x :: r => x.toList == s.toList || keyFrom s r
def keyB (s : ByteArray) : Bool := keyFrom s keysL
theorem impl_key_l0 (s : ByteArray) (K : Nat) (r : List ByteArray) : ∀ (k : Nat) (p : List ByteArray), p.length + r.length ≤ 1000 → r.length < k → impl_IsKey.l0 s (p ++ r) K k p.length = some (if keyFrom s r = true then .inl true else .inr ()) := by
  induction r with
  | nil =>
    intro k p hi hk
    obtain ⟨k, rfl⟩ := succ_of hk
    rw [impl_IsKey.l0, if_neg (by simp)]
    rfl
  | cons x r ih =>
    intro k p hi hk
    obtain ⟨k, rfl⟩ := succ_of hk
    simp only [List.length_cons] at hi hk
    rw [impl_IsKey.l0, if_pos (by simp; omega), at_mid, keyFrom]
    have e : w64 ((p.length : Int) + 1) = ((p ++ [x]).length : Int) := by rw [w64_of (by omega) (by omega)]; simp
    rw [Option.bind_some, e, show p ++ x :: r = (p ++ [x]) ++ r by simp, ih k (p ++ [x]) (by simp; omega) (by omega)]
    cases x.toList == s.toList <;> simp
theorem spec_key_l0 (s : ByteArray) (y : List ByteArray) (K : Nat) : ∀ (k : Nat) (i : Int), spec_IsKey.l0 s y K k i = impl_IsKey.l0 s y K k i := by
  intro k
  induction k with
  | zero => intro i; rfl
  | succ k ih => intro i; rw [spec_IsKey.l0, impl_IsKey.l0]; simp only [ih]
theorem split_keys (K : Nat) (s : ByteArray) : impl_IsKey.f K s = lb (impl_IsKey.l0 s keysL K K 0) (fun r => some r) (fun _ => some false) := by
  unfold impl_IsKey.f jn
  rw [show strings_Split.f _ _ = some keysL from by kernel_rfl]
  rfl
theorem impl_key (s : ByteArray) (K : Nat) (hk : 20 < K) : impl_IsKey.f K s = some (keyB s) := by
  have e := impl_key_l0 s K keysL K [] (by simp [keys_len]) (by rw [keys_len]; exact hk)
  rw [List.nil_append] at e
  rw [split_keys, show (0 : Int) = (([] : List ByteArray).length : Int) from rfl, e, keyB]
  cases keyFrom s keysL <;> rfl
theorem spec_key (s : ByteArray) (K : Nat) (hk : 20 < K) : spec_IsKey.f K s = some (keyB s) := by
  rw [← impl_key s K hk, split_keys]
  unfold spec_IsKey.f jn
  rw [spec_keys, Option.bind_some, spec_key_l0]
theorem empty_l : (⟨#[]⟩ : ByteArray).toList = [] := by rw [Lib.toList_data]
end Go.Proofs.YtfkanjgfjejgiaaGreatDoorE
