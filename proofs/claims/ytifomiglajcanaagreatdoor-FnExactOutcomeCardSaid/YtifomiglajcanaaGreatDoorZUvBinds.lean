/- Parents, homes, binders: the program's tables and the reference's searches come to one function. -/
import Derived.Test.YtifomiglajcanaaGreatDoorZV
import Derived.Test.YtifomiglajcanaaGreatDoorEvPure
import Derived.KernelRfl
import Derived.Lib.Strings
set_option linter.unusedSimpArgs false
set_option linter.unusedVariables false
namespace Go.Proofs.YtifomiglajcanaaGreatDoorE
open Go.Ev
set_option linter.unusedVariables false
abbrev Nd := impl_Node

/-! ### words and keys -/
def inB (a b c : Int) : Bool := decide (b ≤ a) && decide (a ≤ c)
theorem impl_inB (K : Nat) (a b c : Int) : impl_in.f K a b c = some (inB a b c) := by
  unfold impl_in.f inB
  by_cases h : b ≤ a
  · rw [if_pos h]; simp [h]
  · rw [if_neg h]; simp [h]
theorem spec_inB (K : Nat) (a b c : Int) : spec_l1In.f K a b c = some (inB a b c) := impl_inB K a b c
def wordFrom (s : ByteArray) : Nat → Nat → Bool
  | 0, _ => true
  | d + 1, i => if h : i < s.size then (if inB (s[i].toNat : Int) 97 122 = true then wordFrom s d (i + 1) else false) else true
def wordB (s : ByteArray) : Bool := wordFrom s s.size 0 && inB (s.size : Int) 1 8
theorem impl_word_l0 (s : ByteArray) (hn : s.size ≤ 9223372036854775806) (K d : Nat) : ∀ (k i : Nat), i + d = s.size → d < k → impl_IsWord.l0 s K k i = some (if wordFrom s d i = true then .inr () else .inl false) := by
  induction d with
  | zero =>
    intro k i hi hk
    obtain ⟨k, rfl⟩ := succ_of hk
    rw [impl_IsWord.l0, if_neg (by omega)]
    rfl
  | succ d ih =>
    intro k i hi hk
    obtain ⟨k, rfl⟩ := succ_of hk
    have hl : i < s.size := by omega
    rw [impl_IsWord.l0, if_pos (by omega), wordFrom, dif_pos hl]
    simp only [jn, atS_nat s i hl, Option.bind_some]
    have e : w64 ((i : Int) + 1) = ((i + 1 : Nat) : Int) := by rw [w64_of (by omega) (by omega)]; omega
    rw [e, ih k (i + 1) (by omega) (by omega)]
    unfold inB
    by_cases h1 : (s[i].toNat : Int) < 97
    · rw [if_pos h1]; simp; omega
    · by_cases h2 : (s[i].toNat : Int) > 122
      · rw [if_neg h1]; simp [h2]; omega
      · rw [if_neg h1]
        simp only [h2, decide_false, Bool.false_eq_true, if_false]
        rw [if_pos (c := (_ && _) = true) (by simp; omega)]
theorem impl_word (s : ByteArray) (hn : s.size ≤ 9223372036854775806) (K : Nat) (hk : s.size < K) : impl_IsWord.f K s = some (wordB s) := by
  unfold impl_IsWord.f wordB jn
  rw [show (0 : Int) = ((0 : Nat) : Int) from rfl, impl_word_l0 s hn K s.size K 0 (by omega) hk, impl_inB]
  cases wordFrom s s.size 0 <;> rfl
theorem spec_word_l0 (s : ByteArray) (hn : s.size ≤ 9223372036854775806) (K d : Nat) : ∀ (k i : Nat), i + d = s.size → d < k → spec_IsWord.l0 s K k i = some (if wordFrom s d i = true then .inr () else .inl false) := by
  induction d with
  | zero =>
    intro k i hi hk
    obtain ⟨k, rfl⟩ := succ_of hk
    rw [spec_IsWord.l0, if_neg (by omega)]
    rfl
  | succ d ih =>
    intro k i hi hk
    obtain ⟨k, rfl⟩ := succ_of hk
    have hl : i < s.size := by omega
    rw [spec_IsWord.l0, if_pos (by omega), wordFrom, dif_pos hl]
    have e : w64 ((i : Int) + 1) = ((i + 1 : Nat) : Int) := by rw [w64_of (by omega) (by omega)]; omega
    have q : spec_l2Letter.f K (s[i].toNat : Int) = some (inB (s[i].toNat : Int) 97 122) := spec_inB K _ _ _
    simp only [atS_nat s i hl, Option.bind_some, q]
    rw [e, ih k (i + 1) (by omega) (by omega)]
    cases inB (s[i].toNat : Int) 97 122 <;> simp
theorem spec_word (s : ByteArray) (hn : s.size ≤ 9223372036854775806) (K : Nat) (hk : s.size < K) : spec_IsWord.f K s = some (wordB s) := by
  unfold spec_IsWord.f wordB jn
  rw [show (0 : Int) = ((0 : Nat) : Int) from rfl, spec_word_l0 s hn K s.size K 0 (by omega) hk, spec_inB]
  cases wordFrom s s.size 0 <;> rfl

def keysL : List ByteArray := (spec_l3Keys.f 0).getD []
theorem keys_len : keysL.length = 20 := rfl
theorem spec_keys (K : Nat) : spec_l3Keys.f K = some keysL := rfl
def keyFrom (s : ByteArray) : List ByteArray → Bool
  | [] => false
  | x :: r => x.toList == s.toList || keyFrom s r
def keyB (s : ByteArray) : Bool := keyFrom s keysL
theorem impl_key_l0 (s : ByteArray) (K : Nat) (r : List ByteArray) : ∀ (k : Nat) (p : List ByteArray), p.length + r.length ≤ 1000 → r.length < k → impl_IsKey.l0 s (p ++ r) K k p.length = some (if keyFrom s r = true then .inl true else .inr ()) := by
  induction r with
  | nil =>
    intro k p hi hk
    obtain ⟨k, rfl⟩ := succ_of hk
    rw [impl_IsKey.l0, if_neg (by simp)]
    rfl
  | cons x r ih =>
    intro k p hi hk
    obtain ⟨k, rfl⟩ := succ_of hk
    simp only [List.length_cons] at hi hk
    rw [impl_IsKey.l0, if_pos (by simp; omega), at_mid, keyFrom]
    have e : w64 ((p.length : Int) + 1) = ((p ++ [x]).length : Int) := by rw [w64_of (by omega) (by omega)]; simp
    rw [Option.bind_some, e, show p ++ x :: r = (p ++ [x]) ++ r by simp, ih k (p ++ [x]) (by simp; omega) (by omega)]
    cases x.toList == s.toList <;> simp
theorem spec_key_l0 (s : ByteArray) (y : List ByteArray) (K : Nat) : ∀ (k : Nat) (i : Int), spec_IsKey.l0 s y K k i = impl_IsKey.l0 s y K k i := by
  intro k
  induction k with
  | zero => intro i; rfl
  | succ k ih => intro i; rw [spec_IsKey.l0, impl_IsKey.l0]; simp only [ih]
theorem split_keys (K : Nat) (s : ByteArray) : impl_IsKey.f K s = lb (impl_IsKey.l0 s keysL K K 0) (fun r => some r) (fun _ => some false) := by
  unfold impl_IsKey.f jn
  rw [show strings_Split.f _ _ = some keysL from by kernel_rfl]
  rfl
theorem impl_key (s : ByteArray) (K : Nat) (hk : 20 < K) : impl_IsKey.f K s = some (keyB s) := by
  have e := impl_key_l0 s K keysL K [] (by simp [keys_len]) (by rw [keys_len]; exact hk)
  rw [List.nil_append] at e
  rw [split_keys, show (0 : Int) = (([] : List ByteArray).length : Int) from rfl, e, keyB]
  cases keyFrom s keysL <;> rfl
theorem spec_key (s : ByteArray) (K : Nat) (hk : 20 < K) : spec_IsKey.f K s = some (keyB s) := by
  rw [← impl_key s K hk, split_keys]
  unfold spec_IsKey.f jn
  rw [spec_keys, Option.bind_some, spec_key_l0]
theorem empty_l : (⟨#[]⟩ : ByteArray).toList = [] := by rw [Lib.toList_data]
end Go.Proofs.YtifomiglajcanaaGreatDoorE

namespace Go.Proofs.YtifomiglajcanaaGreatDoorE
open Go.Ev
set_option linter.unusedVariables false

/-! ### kinds -/
def arityN (k : Int) : Nat :=
  if k = 3 ∨ k = 10 ∨ k = 11 ∨ k = 15 ∨ k = 16 ∨ k = 18 then 1 else if k = 4 ∨ k = 5 ∨ k = 6 ∨ k = 8 ∨ k = 9 ∨ k = 13 ∨ k = 17 ∨ k = 19 then 2 else if k = 7 ∨ k = 14 then 3 else 0
theorem arity_le (k : Int) : arityN k ≤ 3 := by
  unfold arityN
  split
  · omega
  · split
    · omega
    · split <;> omega
theorem impl_arity (K : Nat) (a : Int) : impl_Arity.f K a = some (arityN a : Int) := by
  unfold impl_Arity.f arityN jn
  by_cases h3 : a = 3
  · subst h3; simp
  by_cases h10 : a = 10
  · subst h10; simp
  by_cases h11 : a = 11
  · subst h11; simp
  by_cases h15 : a = 15
  · subst h15; simp
  by_cases h16 : a = 16
  · subst h16; simp
  by_cases h18 : a = 18
  · subst h18; simp
  by_cases h4 : a = 4
  · subst h4; simp
  by_cases h5 : a = 5
  · subst h5; simp
  by_cases h6 : a = 6
  · subst h6; simp
  by_cases h8 : a = 8
  · subst h8; simp
  by_cases h9 : a = 9
  · subst h9; simp
  by_cases h13 : a = 13
  · subst h13; simp
  by_cases h17 : a = 17
  · subst h17; simp
  by_cases h19 : a = 19
  · subst h19; simp
  by_cases h7 : a = 7
  · subst h7; simp
  by_cases h14 : a = 14
  · subst h14; simp
  simp [h3, h10, h11, h15, h16, h18, h4, h5, h6, h8, h9, h13, h17, h19, h7, h14]
theorem spec_arity (K : Nat) (a : Int) : spec_Arity.f K a = some (arityN a : Int) := impl_arity K a
def namesN (k : Int) : Nat := if k = 1 ∨ k = 3 ∨ k = 5 ∨ k = 19 then 1 else if k = 6 ∨ k = 14 then 2 else 0
theorem impl_names (K : Nat) (a : Int) : impl_namesOf.f K a = some (namesN a : Int) := by
  unfold impl_namesOf.f namesN jn
  by_cases h1 : a = 1
  · subst h1; simp
  by_cases h3 : a = 3
  · subst h3; simp
  by_cases h5 : a = 5
  · subst h5; simp
  by_cases h19 : a = 19
  · subst h19; simp
  by_cases h6 : a = 6
  · subst h6; simp
  by_cases h14 : a = 14
  · subst h14; simp
  simp [h1, h3, h5, h19, h6, h14]
theorem spec_names (K : Nat) (a : Int) : spec_l3Names.f K a = some (namesN a : Int) := impl_names K a

/-! ### kids -/
def kids (n : Nd) : List Int := [n.A, n.B, n.C].take (arityN n.Kind)
theorem kids_len (n : Nd) : (kids n).length = arityN n.Kind := by
  unfold kids
  have := arity_le n.Kind
  simp
  omega
theorem impl_kids (K : Nat) (n : Nd) : impl_Kids.f K n = some (kids n) := by
  unfold impl_Kids.f kids
  rw [impl_arity K]
  have := arity_le n.Kind
  simp only [Option.bind_some, List.length_cons, List.length_nil]
  rw [gd_pos (by omega), Int.toNat_natCast]
theorem spec_kids (K : Nat) (n : Nd) : spec_Kids.f K n = some (kids n) := by
  unfold spec_Kids.f kids
  rw [spec_arity K]
  have := arity_le n.Kind
  simp only [Option.bind_some, List.length_cons, List.length_nil]
  rw [gd_pos (by omega), Int.toNat_natCast]

def nameB (s : ByteArray) : Bool := wordB s && !keyB s
theorem impl_name (s : ByteArray) (hn : s.size ≤ 9223372036854775806) (K : Nat) (hk : s.size + 20 < K) : impl_isName.f K s = some (nameB s) := by
  unfold impl_isName.f nameB
  rw [impl_word s hn K (by omega), Option.bind_some, impl_key s K (by omega)]
  cases wordB s <;> rfl
theorem spec_name (s : ByteArray) (hn : s.size ≤ 9223372036854775806) (K : Nat) (hk : s.size + 20 < K) : spec_l3Name.f K s = some (nameB s) := by
  unfold spec_l3Name.f nameB
  rw [spec_word s hn K (by omega), Option.bind_some, spec_key s K (by omega)]
  cases wordB s <;> rfl
theorem nameB_empty {s : ByteArray} (h : s.toList = []) : nameB s = false := by
  have hs : s.size = 0 := by
    have e := congrArg List.length h
    rw [Lib.toList_data] at e
    simpa using e
  unfold nameB wordB
  rw [hs]
  simp [inB]

/-! ### fields -/
def fitsB (s : ByteArray) (b : Bool) : Bool := if b = true then nameB s else (s.toList == ([] : List UInt8))
theorem impl_fits (s : ByteArray) (b : Bool) (hn : s.size ≤ 9223372036854775806) (K : Nat) (hk : s.size + 20 < K) : impl_nameFits.f K s b = some (fitsB s b) := by
  unfold impl_nameFits.f fitsB
  cases b
  · simp [empty_l]
  · simp [impl_name s hn K hk]
def restB (n : Nd) : Bool := if n.Kind = 2 then inB n.N 0 65535 else if n.Kind = 8 then inB n.N 0 3 else decide (n.N = 0)
def noKids (n : Nd) : Bool := (decide (1 ≤ arityN n.Kind) || decide (n.A = 0)) && ((decide (2 ≤ arityN n.Kind) || decide (n.B = 0)) && (decide (3 ≤ arityN n.Kind) || decide (n.C = 0)))
def fieldsB (n : Nd) : Bool := inB n.Kind 1 19 && (fitsB n.Name (decide (0 < namesN n.Kind)) && (fitsB n.Other (decide (1 < namesN n.Kind)) && (noKids n && restB n)))
/-- Each text of a node is of a size that is there. -/
def small (n : Nd) : Prop := n.Name.size ≤ 1048576 ∧ n.Other.size ≤ 1048576
def big : Nat := 2000000
theorem fields_l0 (n : Nd) (K k : Nat) (hk : 4 ≤ k) : impl_fieldsOk.l0 n K k 0 = some (if noKids n = true then .inr () else .inl false) := by
  obtain ⟨k, rfl⟩ : ∃ m, k = m + 4 := ⟨k - 4, by omega⟩
  have e0 : w64 (0 + 1) = 1 := w64_of (by omega) (by omega)
  have e1 : w64 (1 + 1) = 2 := w64_of (by omega) (by omega)
  have e2 : w64 (2 + 1) = 3 := w64_of (by omega) (by omega)
  have a := arity_le n.Kind
  simp only [impl_fieldsOk.l0, jn, impl_arity, Option.bind_some, at_, e0, e1, e2]
  simp (config := { decide := true }) only [if_true, Int.toNat_zero, Int.toNat_one, List.getElem?_cons_zero, List.getElem?_cons_succ, Option.bind_some]
  unfold noKids
  rcases (by omega : arityN n.Kind = 0 ∨ arityN n.Kind = 1 ∨ arityN n.Kind = 2 ∨ arityN n.Kind = 3) with h | h | h | h <;> rw [h] <;>
    by_cases hA : n.A = 0 <;> by_cases hB : n.B = 0 <;> by_cases hC : n.C = 0 <;> simp [hA, hB, hC]
theorem impl_fields (n : Nd) (hs : small n) (K : Nat) (hk : big ≤ K) : impl_fieldsOk.f K n = some (fieldsB n) := by
  unfold big at hk
  obtain ⟨h1, h2⟩ := hs
  unfold impl_fieldsOk.f fieldsB jn
  simp only [impl_inB, impl_names, impl_fits n.Name _ (by omega) K (by omega), impl_fits n.Other _ (by omega) K (by omega), Option.bind_some]
  rw [fields_l0 n K K (by omega)]
  have p1 : decide ((namesN n.Kind : Int) > 0) = decide (0 < namesN n.Kind) := by simp
  have p2 : decide ((namesN n.Kind : Int) > 1) = decide (1 < namesN n.Kind) := by simp; omega
  rw [p1, p2]
  cases inB n.Kind 1 19
  · rfl
  cases fitsB n.Name (decide (0 < namesN n.Kind))
  · rfl
  cases fitsB n.Other (decide (1 < namesN n.Kind))
  · rfl
  cases noKids n
  · rfl
  unfold restB
  by_cases hk2 : n.Kind = 2
  · simp [lb, hk2]
  · by_cases hk8 : n.Kind = 8
    · simp [lb, hk8]
    · simp [lb, hk2, hk8]
end Go.Proofs.YtifomiglajcanaaGreatDoorE

namespace Go.Proofs.YtifomiglajcanaaGreatDoorE
open Go.Ev
set_option linter.unusedVariables false
theorem names_le (k : Int) : namesN k = 0 ∨ namesN k = 1 ∨ namesN k = 2 := by
  unfold namesN
  split
  · simp
  · split <;> simp
theorem empty_cases (s : ByteArray) : (s.toList == ([] : List UInt8)) = false ∨ ((s.toList == ([] : List UInt8)) = true ∧ nameB s = false) := by
  cases h : (s.toList == ([] : List UInt8)) with
  | false => exact .inl rfl
  | true => exact .inr ⟨rfl, nameB_empty (by simpa using h)⟩
theorem spec_fields (n : Nd) (hs : small n) (K : Nat) (hk : big ≤ K) : spec_l3Fields.f K n = some (fieldsB n) := by
  unfold big at hk
  obtain ⟨h1, h2⟩ := hs
  unfold spec_l3Fields.f fieldsB jn
  simp only [spec_inB, spec_arity, spec_names, spec_name n.Name (by omega) K (by omega), spec_name n.Other (by omega) K (by omega), Option.bind_some, empty_l]
  cases inB n.Kind 1 19
  · rfl
  have hr : (if n.Kind = 2 then some (inB n.N 0 65535) else if n.Kind = 8 then some (inB n.N 0 3) else some (decide (n.N = 0))) = some (restB n) := by
    unfold restB
    split
    · rfl
    · split <;> rfl
  rw [hr]
  have a := arity_le n.Kind
  unfold noKids fitsB
  generalize restB n = R
  have c1 := empty_cases n.Name
  have c2 := empty_cases n.Other
  generalize nameB n.Name = N1 at *
  generalize nameB n.Other = N2 at *
  generalize (n.Name.toList == ([] : List UInt8)) = E1 at *
  generalize (n.Other.toList == ([] : List UInt8)) = E2 at *
  have hn := names_le n.Kind
  generalize namesN n.Kind = m at *
  rcases (by omega : arityN n.Kind = 0 ∨ arityN n.Kind = 1 ∨ arityN n.Kind = 2 ∨ arityN n.Kind = 3) with h | h | h | h <;> rw [h] <;>
    by_cases hA : n.A = 0 <;> by_cases hB : n.B = 0 <;> by_cases hC : n.C = 0 <;> simp [hA, hB, hC] <;>
    (rcases hn with rfl | rfl | rfl <;> cases E1 <;> cases E2 <;> cases N1 <;> cases N2 <;> simp at c1 c2 ⊢)
end Go.Proofs.YtifomiglajcanaaGreatDoorE

namespace Go.Proofs.YtifomiglajcanaaGreatDoorE
open Go.Ev
set_option linter.unusedVariables false
/-- From the node behind the last part down over the parts before j: where they begin. -/
def down (ss ks : List Int) : Nat → Int → Option Int
  | 0, a => some a
  | j + 1, a => if ks.getD j 0 = a - 1 ∧ 1 ≤ a then down ss ks j (ss.getD (a - 1).toNat 0) else none
def startsGo : List Nd → List Int → Option (List Int)
  | [], ss => some ss
  | n :: r, ss => if fieldsB n = true then (match down ss (kids n) (arityN n.Kind) ss.length with | none => none | some a => startsGo r (ss ++ [a])) else none
def nodesOkB (l : List Nd) : Bool := inB (l.length : Int) 1 150 && (match startsGo l [] with | none => false | some ss => decide (ss.getD (l.length - 1) 0 = 0))
def Starts (ss : List Int) : Prop := ∀ j, j < ss.length → 0 ≤ ss.getD j 0 ∧ ss.getD j 0 ≤ j
theorem getD_left {α : Type} (l m : List α) (d : α) (i : Nat) (h : i < l.length) : (l ++ m).getD i d = l.getD i d := by
  simp [List.getD, List.getElem?_append_left h]
theorem getD_right {α : Type} (l m : List α) (d : α) (i : Nat) (h : l.length ≤ i) : (l ++ m).getD i d = m.getD (i - l.length) d := by
  simp [List.getD, List.getElem?_append_right h]
theorem at_getD {α : Type} (l : List α) (d : α) (i : Nat) (h : i < l.length) : at_ l (i : Int) = some (l.getD i d) := by
  rw [at_in l i h]; simp [List.getD, h]
theorem down_pos {ss ks : List Int} {j : Nat} {a : Int} (h : ks.getD j 0 = a - 1) (h1 : 1 ≤ a) : down ss ks (j + 1) a = down ss ks j (ss.getD (a - 1).toNat 0) := by rw [down, if_pos ⟨h, h1⟩]
theorem down_neg {ss ks : List Int} {j : Nat} {a : Int} (h : ¬ (ks.getD j 0 = a - 1 ∧ 1 ≤ a)) : down ss ks (j + 1) a = none := by rw [down, if_neg h]
theorem down_le {ss ks : List Int} (hs : Starts ss) (j : Nat) : ∀ (a b : Int), 0 ≤ a → a ≤ ss.length → down ss ks j a = some b → 0 ≤ b ∧ b ≤ a := by
  induction j with
  | zero => intro a b h0 h1 h; simp only [down] at h; cases h; exact ⟨h0, Int.le_refl _⟩
  | succ j ih =>
    intro a b h0 h1 h
    simp only [down] at h
    split at h
    · rename_i hc
      have := hs (a - 1).toNat (by omega)
      have := ih _ b this.1 (by omega) h
      omega
    · cases h
theorem down_app {ss u ks : List Int} (hs : Starts ss) (j : Nat) : ∀ (a : Int), 0 ≤ a → a ≤ ss.length → down (ss ++ u) ks j a = down ss ks j a := by
  induction j with
  | zero => intro a h0 h1; rfl
  | succ j ih =>
    intro a h0 h1
    simp only [down]
    split
    · rename_i hc
      rw [getD_left _ _ _ _ (by omega)]
      have := hs (a - 1).toNat (by omega)
      exact ih _ this.1 (by omega)
    · rfl
theorem Starts.snoc {ss : List Int} (hs : Starts ss) {b : Int} (h0 : 0 ≤ b) (h1 : b ≤ ss.length) : Starts (ss ++ [b]) := by
  intro j hj
  simp at hj
  by_cases h : j < ss.length
  · rw [getD_left _ _ _ _ h]; exact hs j h
  · have e : j = ss.length := by omega
    subst e
    rw [getD_right _ _ _ _ (Nat.le_refl _)]
    simpa using ⟨h0, h1⟩
theorem starts_nil : Starts [] := fun j hj => by simp at hj

/-! ### the reference's -/
theorem spec_down {ss ks : List Int} (hs : Starts ss) (hi : ss.length ≤ 1000) (hl : ks.length ≤ 3) (K : Nat) (j : Nat) : ∀ (k : Nat) (a : Int), 0 ≤ a → a ≤ ss.length → j < k → j ≤ ks.length →
    spec_l3Starts.l1 ss ks K k a ((j : Int) - 1) = some (match down ss ks j a with | none => .inl ([], false) | some b => .inr b) := by
  induction j with
  | zero =>
    intro k a h0 h1 hk hj
    obtain ⟨k, rfl⟩ := succ_of hk
    rw [spec_l3Starts.l1, if_neg (by omega)]
    rfl
  | succ j ih =>
    intro k a h0 h1 hk hj
    obtain ⟨k, rfl⟩ := succ_of hk
    have e : ((j + 1 : Nat) : Int) - 1 = (j : Int) := by omega
    rw [spec_l3Starts.l1, e, if_pos (by omega)]
    simp only [jn, at_getD ks 0 j (by omega), Option.bind_some]
    rw [w64_of (x := a - 1) (by omega) (by omega), w64_of (x := (j : Int) - 1) (by omega) (by omega)]
    by_cases hx : ks.getD j 0 = a - 1
    · by_cases h1a : 1 ≤ a
      · rw [down_pos hx h1a]
        have hm : a - 1 = ((a - 1).toNat : Int) := by omega
        have st := hs (a - 1).toNat (by omega)
        have q := at_getD ss 0 (a - 1).toNat (by omega)
        rw [← hm] at q
        have n0 : ¬ (a - 1 < 0) := by omega
        simp only [hx, q, decide_true, Bool.not_true, Bool.false_eq_true, if_false, n0, decide_false, Option.bind_some]
        exact ih k _ st.1 (by omega) (by omega) (by omega)
      · rw [down_neg (fun h => h1a h.2)]
        have n0 : a - 1 < 0 := by omega
        simp only [hx, decide_true, Bool.not_true, Bool.false_eq_true, if_false, n0, if_true]
    · rw [down_neg (fun h => hx h.1)]
      simp only [hx, decide_false, Bool.not_false, if_true]
theorem spec_starts (K : Nat) (hK : big ≤ K) (r : List Nd) : ∀ (k : Nat) (p : List Nd) (ss : List Int), p.length = ss.length → Starts ss → (∀ n ∈ r, small n) → r.length < k → p.length + r.length ≤ 150 →
    spec_l3Starts.l0 (p ++ r) K k p.length ss = some (match startsGo r ss with | none => .inl ([], false) | some t => .inr t) := by
  unfold big at hK
  induction r with
  | nil =>
    intro k p ss hp hs hsm hk hl
    obtain ⟨k, rfl⟩ := succ_of hk
    rw [spec_l3Starts.l0, if_neg (by simp)]
    rfl
  | cons n r ih =>
    intro k p ss hp hs hsm hk hl
    obtain ⟨k, rfl⟩ := succ_of hk
    simp only [List.length_cons] at hk hl
    rw [spec_l3Starts.l0, if_pos (by simp; omega), at_mid, startsGo]
    have kl := kids_len n
    have al := arity_le n.Kind
    simp only [Option.bind_some, spec_fields n (hsm n (by simp)) K hK, spec_kids, jn]
    cases fieldsB n
    · rfl
    simp only [Bool.not_true, Bool.false_eq_true, if_false, if_true]
    rw [w64_of (x := ((kids n).length : Int) - 1) (by omega) (by omega), kl, hp, spec_down hs (by omega) (by omega) K (arityN n.Kind) K _ (by omega) (by omega) (by omega) (by omega)]
    cases hd : down ss (kids n) (arityN n.Kind) ss.length with
    | none => rfl
    | some b =>
      have hb := down_le hs _ _ _ (by omega) (by omega) hd
      simp only [lb]
      rw [gd_pos (by omega), w64_of (by omega) (by omega), show p ++ n :: r = (p ++ [n]) ++ r by simp]
      have e : ((ss.length : Int) + 1) = ((p ++ [n]).length : Int) := by simp [hp]
      rw [e]
      exact ih k (p ++ [n]) (ss ++ [b]) (by simp [hp]) (hs.snoc hb.1 hb.2) (fun m hm => hsm m (by simp [hm])) (by omega) (by simp; omega)
theorem go_len (r : List Nd) : ∀ (ss t : List Int), startsGo r ss = some t → t.length = ss.length + r.length := by
  induction r with
  | nil => intro ss t h; cases h; simp
  | cons n r ih =>
    intro ss t h
    simp only [startsGo] at h
    split at h
    · split at h
      · cases h
      · have := ih _ _ h; simp at this; simp; omega
    · cases h
theorem spec_nodesOk (l : List Nd) (hn : l.length ≤ 1048576) (hsm : ∀ n ∈ l, small n) (K : Nat) (hk : big ≤ K) : spec_NodesOk.f K l = some (nodesOkB l) := by
  have hk' := hk
  unfold big at hk'
  unfold spec_NodesOk.f nodesOkB
  rw [spec_inB, Option.bind_some]
  cases hr : inB (l.length : Int) 1 150 with
  | false => rfl
  | true =>
    unfold inB at hr
    simp only [Bool.and_eq_true, decide_eq_true_eq] at hr
    simp only [Bool.not_true, Bool.false_eq_true, if_false, Bool.true_and]
    unfold spec_l3Starts.f jn
    have q := spec_starts K hk l K [] [] rfl starts_nil hsm (by omega) (by simp; omega)
    rw [List.nil_append] at q
    rw [show (0 : Int) = (([] : List Nd).length : Int) from rfl, q]
    cases hg : startsGo l [] with
    | none => rfl
    | some t =>
      have tl := go_len _ _ _ hg
      simp at tl
      simp only [lb, Option.bind_some, if_true]
      rw [w64_of (by omega) (by omega), show (l.length : Int) - 1 = ((l.length - 1 : Nat) : Int) by omega, at_getD t 0 _ (by omega), Option.bind_some]
      simp

/-! ### the program's -/
theorem set_mid (ss : List Int) (d : Nat) (b : Int) : (ss ++ List.replicate (d + 1) 0).set ss.length b = (ss ++ [b]) ++ List.replicate d 0 := by
  simp [List.set_append, List.replicate_succ]
theorem impl_down {ss ks u : List Int} (hs : Starts ss) (hi : ss.length ≤ 1000) (hl : ks.length ≤ 3) (K : Nat) (j : Nat) : ∀ (k : Nat) (a : Int), 0 ≤ a → a ≤ ss.length → j < k → j ≤ ks.length →
    impl_NodesOk.l1 (ss ++ u) ks K k a ((j : Int) - 1) = some (match down ss ks j a with | none => .inl false | some b => .inr b) := by
  induction j with
  | zero =>
    intro k a h0 h1 hk hj
    obtain ⟨k, rfl⟩ := succ_of hk
    rw [impl_NodesOk.l1, if_neg (by omega)]
    rfl
  | succ j ih =>
    intro k a h0 h1 hk hj
    obtain ⟨k, rfl⟩ := succ_of hk
    have e : ((j + 1 : Nat) : Int) - 1 = (j : Int) := by omega
    rw [impl_NodesOk.l1, e, if_pos (by omega)]
    simp only [jn, at_getD ks 0 j (by omega), Option.bind_some]
    rw [w64_of (x := a - 1) (by omega) (by omega), w64_of (x := (j : Int) - 1) (by omega) (by omega)]
    by_cases h1a : a = 0
    · rw [if_pos h1a, down_neg (fun h => by omega)]
      rfl
    · rw [if_neg h1a]
      by_cases hx : ks.getD j 0 = a - 1
      · rw [down_pos hx (by omega)]
        have hm : a - 1 = ((a - 1).toNat : Int) := by omega
        have st := hs (a - 1).toNat (by omega)
        have q := at_getD (ss ++ u) 0 (a - 1).toNat (by simp; omega)
        rw [← hm, getD_left _ _ _ _ (by omega)] at q
        simp only [hx, decide_true, Bool.not_true, Bool.false_eq_true, if_false, q, Option.bind_some]
        exact ih k _ st.1 (by omega) (by omega) (by omega)
      · rw [down_neg (fun h => hx h.1)]
        simp only [hx, decide_false, Bool.not_false, if_true]
theorem impl_starts (K : Nat) (hK : big ≤ K) (r : List Nd) : ∀ (k : Nat) (p : List Nd) (ss : List Int), p.length = ss.length → Starts ss → (∀ n ∈ r, small n) → r.length < k → p.length + r.length ≤ 150 →
    impl_NodesOk.l0 (p ++ r) K k p.length (ss ++ List.replicate r.length 0) = some (match startsGo r ss with | none => .inl false | some t => .inr t) := by
  unfold big at hK
  induction r with
  | nil =>
    intro k p ss hp hs hsm hk hl
    obtain ⟨k, rfl⟩ := succ_of hk
    rw [impl_NodesOk.l0, if_neg (by simp)]
    simp [startsGo]
  | cons n r ih =>
    intro k p ss hp hs hsm hk hl
    obtain ⟨k, rfl⟩ := succ_of hk
    simp only [List.length_cons] at hk hl ⊢
    rw [impl_NodesOk.l0, if_pos (by simp; omega), at_mid, startsGo]
    have kl := kids_len n
    have al := arity_le n.Kind
    simp only [Option.bind_some, impl_fields n (hsm n (by simp)) K hK, impl_kids, jn]
    cases fieldsB n
    · rfl
    simp only [Bool.not_true, Bool.false_eq_true, if_false, if_true]
    rw [w64_of (x := ((kids n).length : Int) - 1) (by omega) (by omega), kl, hp, impl_down hs (by omega) (by omega) K (arityN n.Kind) K _ (by omega) (by omega) (by omega) (by omega)]
    cases hd : down ss (kids n) (arityN n.Kind) ss.length with
    | none => rfl
    | some b =>
      have hb := down_le hs _ _ _ (by omega) (by omega) hd
      simp only [lb]
      rw [at_getD (ss ++ List.replicate (r.length + 1) 0) 0 ss.length (by simp), Option.bind_some, Int.toNat_natCast, set_mid, w64_of (by omega) (by omega), show p ++ n :: r = (p ++ [n]) ++ r by simp]
      have e : ((ss.length : Int) + 1) = ((p ++ [n]).length : Int) := by simp [hp]
      rw [e]
      exact ih k (p ++ [n]) (ss ++ [b]) (by simp [hp]) (hs.snoc hb.1 hb.2) (fun m hm => hsm m (by simp [hm])) (by omega) (by simp; omega)
theorem impl_nodesOk (l : List Nd) (hn : l.length ≤ 1048576) (hsm : ∀ n ∈ l, small n) (K : Nat) (hk : big ≤ K) : impl_NodesOk.f K l = some (nodesOkB l) := by
  have hk' := hk
  unfold big at hk'
  unfold impl_NodesOk.f nodesOkB
  rw [impl_inB, Option.bind_some]
  cases hr : inB (l.length : Int) 1 150 with
  | false => rfl
  | true =>
    unfold inB at hr
    simp only [Bool.and_eq_true, decide_eq_true_eq] at hr
    simp only [Bool.not_true, Bool.false_eq_true, if_false, Bool.true_and]
    rw [gd_pos (by omega)]
    unfold jn
    have q := impl_starts K hk l K [] [] rfl starts_nil hsm (by omega) (by simp; omega)
    rw [List.nil_append, List.nil_append] at q
    rw [show (0 : Int) = (([] : List Nd).length : Int) from rfl, Int.toNat_natCast, show (([] : List Nd).length : Int) = 0 from rfl] at *
    rw [q]
    cases hg : startsGo l [] with
    | none => rfl
    | some t =>
      have tl := go_len _ _ _ hg
      simp at tl
      simp only [lb]
      rw [w64_of (by omega) (by omega), show (l.length : Int) - 1 = ((l.length - 1 : Nat) : Int) by omega, at_getD t 0 _ (by omega), Option.bind_some]

/-! ### what right nodes are like -/
theorem go_all (r : List Nd) : ∀ (ss t : List Int), Starts ss → startsGo r ss = some t → Starts t ∧ (∃ u, t = ss ++ u) ∧ ∀ j, (h : j < r.length) → fieldsB r[j] = true ∧ down t (kids r[j]) (arityN r[j].Kind) (ss.length + j : Nat) = some (t.getD (ss.length + j) 0) := by
  induction r with
  | nil => intro ss t hs h; cases h; exact ⟨hs, ⟨[], by simp⟩, fun j h => by simp at h⟩
  | cons n r ih =>
    intro ss t hs h
    simp only [startsGo] at h
    split at h
    · rename_i hf
      split at h
      · cases h
      · rename_i a ha
        have hb := down_le hs _ _ _ (by omega) (by omega) ha
        obtain ⟨st, ⟨u, rfl⟩, q⟩ := ih _ _ (hs.snoc hb.1 hb.2) h
        refine ⟨st, ⟨a :: u, by simp⟩, fun j hj => ?_⟩
        cases j with
        | zero =>
          refine ⟨hf, ?_⟩
          rw [Nat.add_zero, List.getElem_cons_zero, List.append_assoc, down_app hs _ _ (by omega) (by omega), ha, getD_right _ _ _ _ (Nat.le_refl _)]
          simp
        | succ j =>
          have := q j (by simpa using hj)
          rw [show (ss ++ [a]).length + j = ss.length + (j + 1) by simp; omega] at this
          exact this
    · cases h
/-- Where the parts of a right program begin. -/
theorem ok_all {l : List Nd} (h : nodesOkB l = true) : 1 ≤ l.length ∧ l.length ≤ 150 ∧ ∃ ss, Starts ss ∧ ss.length = l.length ∧ ∀ j, (h : j < l.length) → fieldsB l[j] = true ∧ down ss (kids l[j]) (arityN l[j].Kind) j = some (ss.getD j 0) := by
  unfold nodesOkB inB at h
  simp only [Bool.and_eq_true, decide_eq_true_eq] at h
  obtain ⟨⟨h1, h2⟩, h3⟩ := h
  refine ⟨by omega, by omega, ?_⟩
  cases hg : startsGo l [] with
  | none => rw [hg] at h3; cases h3
  | some t =>
    obtain ⟨st, _, q⟩ := go_all l [] t starts_nil hg
    have tl := go_len _ _ _ hg
    refine ⟨t, st, by simpa using tl, fun j hj => ?_⟩
    have := q j hj
    simpa using this
end Go.Proofs.YtifomiglajcanaaGreatDoorE

namespace Go.Proofs.YtifomiglajcanaaGreatDoorE
open Go.Ev
set_option linter.unusedVariables false
set_option linter.unusedSimpArgs false
def nd (l : List Nd) (i : Nat) : Nd := l.getD i ⟨0, 0, 0, 0, 0, ⟨#[]⟩, ⟨#[]⟩⟩
def rd (l : List Int) (i : Int) : Int := l.getD i.toNat 0
theorem rd_nat (ss : List Int) (j : Nat) : rd ss (j : Int) = ss.getD j 0 := rfl
theorem at_nd (l : List Nd) (i : Nat) (h : i < l.length) : at_ l (i : Int) = some (nd l i) := at_getD l _ i h
theorem at_rd (l : List Int) (i : Int) (h0 : 0 ≤ i) (h : i < l.length) : at_ l i = some (rd l i) := by
  obtain ⟨n, rfl⟩ : ∃ n : Nat, i = (n : Int) := ⟨i.toNat, by omega⟩
  exact at_getD l 0 n (by omega)
theorem nd_get (l : List Nd) (i : Nat) (h : i < l.length) : nd l i = l[i] := by simp [nd, List.getD, h]
def StN (ss : List Int) (i : Nat) : Prop := ss.length = i ∧ ∀ j, j < i → 0 ≤ ss.getD j 0 ∧ ss.getD j 0 ≤ j
theorem down_z (ss ks : List Int) (a : Int) : down ss ks 0 a = some a := rfl
theorem down_s (ss ks : List Int) (j : Nat) (a : Int) : down ss ks (j + 1) a = if rd ks (j : Int) = a - 1 ∧ 1 ≤ a then down ss ks j (rd ss (a - 1)) else none := rfl
theorem dn_le {ss ks : List Int} {i : Nat} (hs : StN ss i) (j : Nat) (a b : Int) (h0 : 0 ≤ a) (h1 : a ≤ i) (h : down ss ks j a = some b) : 0 ≤ b ∧ b ≤ a :=
  down_le (fun j h => hs.2 j (by rw [← hs.1]; exact h)) j a b h0 (by rw [hs.1]; exact h1) h
/-- Where each node begins. -/
def startsL (l : List Nd) : List Int := (startsGo l []).getD []
theorem startsL_ok {l : List Nd} (h : nodesOkB l = true) : startsGo l [] = some (startsL l) ∧ StN (startsL l) l.length ∧ ∀ x : Nat, x < l.length → down (startsL l) (kids (nd l x)) (arityN (nd l x).Kind) x = some (rd (startsL l) (x : Int)) := by
  unfold nodesOkB at h
  simp only [Bool.and_eq_true] at h
  cases hg : startsGo l [] with
  | none => rw [hg] at h; exact absurd h.2 (by simp)
  | some t =>
    have e : startsL l = t := by unfold startsL; rw [hg]; rfl
    rw [e]
    obtain ⟨st, _, q⟩ := go_all l [] t starts_nil hg
    have tl := go_len _ _ _ hg
    simp at tl
    refine ⟨rfl, ⟨tl, fun j hj => st j (by omega)⟩, fun x hx => ?_⟩
    have := (q x hx).2
    rw [nd_get l x hx]
    simpa [rd] using this
theorem ok_len {l : List Nd} (h : nodesOkB l = true) : 1 ≤ l.length ∧ l.length ≤ 150 := by
  obtain ⟨h1, h2, _⟩ := ok_all h
  exact ⟨h1, h2⟩
theorem down_kids {ss ks : List Int} {i : Nat} (hs : StN ss i) (j : Nat) : ∀ (a b : Int), 0 ≤ a → a ≤ i → down ss ks j a = some b → ∀ m, m < j → b ≤ rd ks (m : Int) ∧ rd ks (m : Int) < a := by
  induction j with
  | zero => intro a b _ _ _ m hm; omega
  | succ j ih =>
    intro a b h0 h1 h m hm
    simp only [down_z, down_s] at h
    split at h
    · rename_i hc
      obtain ⟨q, hq⟩ : ∃ q : Nat, a - 1 = (q : Int) := ⟨(a - 1).toNat, by omega⟩
      rw [hq, rd_nat] at h
      have hb := hs.2 q (by omega)
      have hd := dn_le hs j _ b hb.1 (by omega) h
      by_cases hmj : m = j
      · subst hmj; omega
      · have := ih _ b hb.1 (by omega) h m (by omega)
        omega
    · cases h
theorem ok_kids {l : List Nd} (h : nodesOkB l = true) (x : Nat) (hx : x < l.length) (m : Nat) (hm : m < arityN (nd l x).Kind) : 0 ≤ rd (kids (nd l x)) (m : Int) ∧ rd (kids (nd l x)) (m : Int) < x := by
  obtain ⟨_, hs, hd⟩ := startsL_ok h
  have := down_kids hs _ _ _ (by omega) (by omega) (hd x hx) m hm
  have h2 := hs.2 x hx
  rw [← rd_nat] at h2
  omega
theorem st_le {l : List Nd} (h : nodesOkB l = true) (x : Nat) (hx : x < l.length) : 0 ≤ rd (startsL l) (x : Int) ∧ rd (startsL l) (x : Int) ≤ x := (startsL_ok h).2.1.2 x hx
theorem down_tile {t ks : List Int} {i : Nat} (hs : StN t i) (j : Nat) : ∀ (a b : Int), 0 ≤ a → a ≤ i → down t ks j a = some b → ∀ p : Int, b ≤ p → p < a → ∃ m, m < j ∧ rd t (rd ks (m : Int)) ≤ p ∧ p ≤ rd ks (m : Int) ∧ rd ks (m : Int) < a ∧ b ≤ rd t (rd ks (m : Int)) := by
  induction j with
  | zero => intro a b _ _ h p h0 h1; simp only [down_z, down_s] at h; cases h; omega
  | succ j ih =>
    intro a b h0 h1 h p h2 h3
    simp only [down_z, down_s] at h
    split at h
    · rename_i hc
      obtain ⟨q, hq⟩ : ∃ q : Nat, a - 1 = (q : Int) := ⟨(a - 1).toNat, by omega⟩
      have hb := hs.2 q (by omega)
      have hb0 : 0 ≤ rd t (a - 1) := by rw [hq, rd_nat]; exact hb.1
      have hb1 : rd t (a - 1) ≤ a - 1 := by rw [hq, rd_nat]; omega
      have hd := dn_le hs j _ b hb0 (by omega) h
      by_cases hp : rd t (a - 1) ≤ p
      · exact ⟨j, by omega, by rw [hc.1]; exact hp, by omega, by omega, by rw [hc.1]; omega⟩
      · obtain ⟨m, k1, k2, k3, k4, k5⟩ := ih _ b hb0 (by omega) h p h2 (by omega)
        exact ⟨m, by omega, k2, k3, by omega, k5⟩
    · cases h
theorem down_gap {t ks : List Int} {i : Nat} (hs : StN t i) (j : Nat) : ∀ (a b : Int), 0 ≤ a → a ≤ i → down t ks j a = some b → ∀ m0, m0 < j → (b ≤ rd t (rd ks (m0 : Int))) ∧ ∀ p : Int, rd ks (m0 : Int) < p → p < a → ∃ m, m < j ∧ rd t (rd ks (m : Int)) ≤ p ∧ p ≤ rd ks (m : Int) ∧ rd ks (m : Int) < a ∧ rd ks (m0 : Int) < rd t (rd ks (m : Int)) := by
  induction j with
  | zero => intro a b _ _ _ m0 hm; omega
  | succ j ih =>
    intro a b h0 h1 h m0 hm
    have h' := h
    simp only [down_z, down_s] at h
    split at h
    · rename_i hc
      obtain ⟨q, hq⟩ : ∃ q : Nat, a - 1 = (q : Int) := ⟨(a - 1).toNat, by omega⟩
      have hb := hs.2 q (by omega)
      have hb0 : 0 ≤ rd t (a - 1) := by rw [hq, rd_nat]; exact hb.1
      have hb1 : rd t (a - 1) ≤ a - 1 := by rw [hq, rd_nat]; omega
      have hd := dn_le hs j _ b hb0 (by omega) h
      by_cases hmj : m0 = j
      · subst hmj
        exact ⟨by rw [hc.1]; omega, fun p h2 h3 => by omega⟩
      · obtain ⟨k0, k⟩ := ih _ b hb0 (by omega) h m0 (by omega)
        have hk := down_kids hs j _ b hb0 (by omega) h m0 (by omega)
        refine ⟨k0, fun p h2 h3 => ?_⟩
        by_cases hp : rd t (a - 1) ≤ p
        · exact ⟨j, by omega, by rw [hc.1]; exact hp, by omega, by omega, by rw [hc.1]; omega⟩
        · obtain ⟨m, k1, k2, k3, k4, k5⟩ := k p h2 (by omega)
          exact ⟨m, by omega, k2, k3, by omega, k5⟩
    · cases h
theorem laminar {l : List Nd} {t : List Int} (hs : StN t l.length) (hd : ∀ x : Nat, x < l.length → down t (kids (nd l x)) (arityN (nd l x).Kind) x = some (rd t (x : Int))) (N : Nat) : ∀ k : Nat, k < N → k < l.length → ∀ p : Nat, rd t (k : Int) ≤ p → p ≤ k → rd t (k : Int) ≤ rd t (p : Int) := by
  induction N with
  | zero => intro k hk; omega
  | succ N ih =>
    intro k hk hkl p h0 h1
    by_cases hp : p = k
    · subst hp; exact Int.le_refl _
    · have hb := hs.2 k hkl
      obtain ⟨m, k1, k2, k3, k4, k5⟩ := down_tile hs _ _ _ (by omega) (by omega) (hd k hkl) p h0 (by omega)
      obtain ⟨q, hq⟩ : ∃ q : Nat, rd (kids (nd l k)) (m : Int) = (q : Int) := ⟨(rd (kids (nd l k)) (m : Int)).toNat, by omega⟩
      rw [hq] at k2 k3 k4 k5
      have := ih q (by omega) (by omega) p k2 (by omega)
      omega
/-- Two nodes of which one is part of both are one. -/
theorem one_parent {l : List Nd} (h : nodesOkB l = true) {x y : Nat} (hx : x < l.length) (hy : y < l.length) {m m' : Nat} (hm : m < arityN (nd l x).Kind) (hm' : m' < arityN (nd l y).Kind) (he : rd (kids (nd l x)) (m : Int) = rd (kids (nd l y)) (m' : Int)) : x = y := by
  obtain ⟨_, hs, hd⟩ := startsL_ok h
  generalize startsL l = t at hs hd
  have key : ∀ {x y : Nat}, x < l.length → y < l.length → ∀ {m m' : Nat}, m < arityN (nd l x).Kind → m' < arityN (nd l y).Kind → rd (kids (nd l x)) (m : Int) = rd (kids (nd l y)) (m' : Int) → x < y → False := by
    intro x y hx hy m m' hm hm' he hlt
    have hkx := ok_kids h x hx m hm
    obtain ⟨a1, a2⟩ := down_gap hs _ _ _ (by omega) (by omega) (hd y hy) m' hm'
    obtain ⟨b1, _⟩ := down_gap hs _ _ _ (by omega) (by omega) (hd x hx) m hm
    obtain ⟨q, k1, k2, k3, k4, k5⟩ := a2 x (by omega) (by omega)
    have hkq := ok_kids h y hy q k1
    obtain ⟨K, hK⟩ : ∃ K : Nat, rd (kids (nd l y)) (q : Int) = (K : Int) := ⟨(rd (kids (nd l y)) (q : Int)).toNat, by omega⟩
    rw [hK] at k2 k3 k4 k5
    have hl := laminar hs hd (K + 1) K (by omega) (by omega) x k2 (by omega)
    obtain ⟨c, hc⟩ : ∃ c : Nat, rd (kids (nd l x)) (m : Int) = (c : Int) := ⟨(rd (kids (nd l x)) (m : Int)).toNat, by omega⟩
    rw [hc] at b1 hkx he
    have hsc := hs.2 c (by omega)
    rw [← rd_nat] at hsc
    omega
  by_cases h1 : x < y
  · exact (key hx hy hm hm' he h1).elim
  · by_cases h2 : y < x
    · exact (key hy hx hm' hm he.symm h2).elim
    · omega

/-! ### parents -/
def hasFrom (ks : List Int) (c : Int) : Nat → Nat → Bool
  | 0, _ => false
  | e + 1, j => if rd ks (j : Int) = c then true else hasFrom ks c e (j + 1)
def hasKid (n : Nd) (c : Int) : Bool := hasFrom (kids n) c (arityN n.Kind) 0
theorem hasFrom_iff (ks : List Int) (c : Int) (e : Nat) : ∀ j, hasFrom ks c e j = true ↔ ∃ m, j ≤ m ∧ m < j + e ∧ rd ks (m : Int) = c := by
  induction e with
  | zero => intro j; simp [hasFrom]; omega
  | succ e ih =>
    intro j
    simp only [hasFrom]
    by_cases h : rd ks (j : Int) = c
    · rw [if_pos h]
      exact ⟨fun _ => ⟨j, by omega, by omega, h⟩, fun _ => rfl⟩
    · rw [if_neg h, ih]
      constructor
      · rintro ⟨m, h1, h2, h3⟩; exact ⟨m, by omega, by omega, h3⟩
      · rintro ⟨m, h1, h2, h3⟩
        refine ⟨m, ?_, by omega, h3⟩
        by_cases hm : m = j
        · subst hm; exact absurd h3 h
        · omega
theorem hasKid_iff (n : Nd) (c : Int) : hasKid n c = true ↔ ∃ m, m < arityN n.Kind ∧ rd (kids n) (m : Int) = c := by
  unfold hasKid
  rw [hasFrom_iff]
  constructor
  · rintro ⟨m, _, h2, h3⟩; exact ⟨m, by omega, h3⟩
  · rintro ⟨m, h2, h3⟩; exact ⟨m, by omega, by omega, h3⟩
/-- The first node, from i on, of which c is a part. -/
def parFrom (l : List Nd) (c : Int) : Nat → Nat → Int
  | 0, _ => -1
  | d + 1, i => if hasKid (nd l i) c = true then i else parFrom l c d (i + 1)
def parOf (l : List Nd) (c : Int) : Int := parFrom l c l.length 0
/-- The last node before i of which c is a part. -/
def lastPar (l : List Nd) (c : Int) : Nat → Int
  | 0 => -1
  | i + 1 => if hasKid (nd l i) c = true then i else lastPar l c i
theorem parFrom_none (l : List Nd) (c : Int) (d : Nat) : ∀ i, (∀ x, i ≤ x → x < i + d → hasKid (nd l x) c = false) → parFrom l c d i = -1 := by
  induction d with
  | zero => intro i _; rfl
  | succ d ih =>
    intro i h
    simp only [parFrom]
    rw [h i (by omega) (by omega), if_neg (by simp)]
    exact ih (i + 1) fun x h1 h2 => h x (by omega) (by omega)
theorem parFrom_at (l : List Nd) (c : Int) (x : Nat) (hx : hasKid (nd l x) c = true) (d : Nat) : ∀ i, (∀ y, i ≤ y → y < x → hasKid (nd l y) c = false) → i ≤ x → x < i + d → parFrom l c d i = x := by
  induction d with
  | zero => intro i _ _ _; omega
  | succ d ih =>
    intro i h h0 h1
    simp only [parFrom]
    by_cases hi : i = x
    · subst hi; rw [if_pos hx]
    · rw [h i (by omega) (by omega), if_neg (by simp)]
      exact ih (i + 1) (fun y h2 h3 => h y (by omega) h3) (by omega) (by omega)
theorem last_par {l : List Nd} (h : nodesOkB l = true) (c : Int) (i : Nat) : i ≤ l.length → (∀ x, i ≤ x → x < l.length → hasKid (nd l x) c = false) → lastPar l c i = parOf l c := by
  induction i with
  | zero =>
    intro _ hx
    exact (parFrom_none l c l.length 0 fun x _ h2 => hx x (by omega) (by omega)).symm
  | succ i ih =>
    intro hi hx
    simp only [lastPar]
    by_cases hk : hasKid (nd l i) c = true
    · rw [if_pos hk]
      refine (parFrom_at l c i hk l.length 0 (fun y _ hy => ?_) (by omega) (by omega)).symm
      cases hh : hasKid (nd l y) c with
      | false => rfl
      | true =>
        obtain ⟨m, h1, h2⟩ := (hasKid_iff _ _).1 hh
        obtain ⟨m', h3, h4⟩ := (hasKid_iff _ _).1 hk
        have := one_parent h (show y < l.length by omega) (show i < l.length by omega) h1 h3 (h2.trans h4.symm)
        omega
    · rw [if_neg hk]
      refine ih (by omega) fun x h1 h2 => ?_
      by_cases hxi : x = i
      · subst hxi; simpa using hk
      · exact hx x (by omega) h2
theorem parOf_lt (l : List Nd) (c : Int) : parOf l c < l.length := by
  have : ∀ d i, parFrom l c d i < (i : Int) + d := by
    intro d
    induction d with
    | zero => intro i; simp only [parFrom]; omega
    | succ d ih =>
      intro i
      simp only [parFrom]
      split
      · omega
      · have := ih (i + 1); omega
  have := this l.length 0
  unfold parOf
  omega
theorem parOf_gt {l : List Nd} (h : nodesOkB l = true) (c : Int) : parOf l c = -1 ∨ (c < parOf l c ∧ 0 ≤ parOf l c) := by
  have : ∀ d i, i + d ≤ l.length → parFrom l c d i = -1 ∨ (c < parFrom l c d i ∧ 0 ≤ parFrom l c d i) := by
    intro d
    induction d with
    | zero => intro i _; exact .inl rfl
    | succ d ih =>
      intro i hi
      simp only [parFrom]
      split
      · rename_i hk
        obtain ⟨m, h1, h2⟩ := (hasKid_iff _ _).1 hk
        have := ok_kids h i (by omega) m h1
        exact .inr ⟨by omega, by omega⟩
      · exact ih (i + 1) (by omega)
  exact this l.length 0 (by omega)
theorem down_first {t ks : List Int} {i : Nat} (hs : StN t i) (j : Nat) : ∀ (a b : Int), 0 ≤ a → a ≤ i → down t ks (j + 1) a = some b → b = rd t (rd ks 0) := by
  induction j with
  | zero =>
    intro a b h0 h1 h
    simp only [down_z, down_s] at h
    split at h
    · rename_i hc
      cases h
      have := hc.1
      rw [← this]
      rfl
    · cases h
  | succ j ih =>
    intro a b h0 h1 h
    rw [down_s] at h
    split at h
    · rename_i hc
      obtain ⟨q, hq⟩ : ∃ q : Nat, a - 1 = (q : Int) := ⟨(a - 1).toNat, by omega⟩
      have hb := hs.2 q (by omega)
      rw [hq, rd_nat] at h
      exact ih _ b hb.1 (by omega) h
    · cases h
theorem kid0 (n : Nd) (h : 0 < arityN n.Kind) : rd (kids n) 0 = n.A := by
  obtain ⟨m, hm⟩ := succ_of h
  unfold kids
  rw [hm]
  rfl
theorem start_step {l : List Nd} (h : nodesOkB l = true) (x : Nat) (hx : x < l.length) (ha : 0 < arityN (nd l x).Kind) : rd (startsL l) (x : Int) = rd (startsL l) (nd l x).A ∧ 0 ≤ (nd l x).A ∧ (nd l x).A < x := by
  have hd := (startsL_ok h).2.2 x hx
  have hk := ok_kids h x hx 0 ha
  rw [show ((0 : Nat) : Int) = 0 from rfl, kid0 _ ha] at hk
  obtain ⟨m, hm⟩ := succ_of ha
  rw [hm] at hd
  have := down_first (startsL_ok h).2.1 m x _ (by omega) (by omega) hd
  rw [kid0 _ ha] at this
  exact ⟨this, hk⟩
theorem start_leaf {l : List Nd} (h : nodesOkB l = true) (x : Nat) (hx : x < l.length) (ha : arityN (nd l x).Kind = 0) : rd (startsL l) (x : Int) = x := by
  have hd := (startsL_ok h).2.2 x hx
  rw [ha] at hd
  simp only [down_z, down_s] at hd
  exact (Option.some.inj hd).symm
theorem par_eq {l : List Nd} (h : nodesOkB l = true) (c : Int) (x : Nat) (hx : x < l.length) (hk : hasKid (nd l x) c = true) : parOf l c = x := by
  refine parFrom_at l c x hk l.length 0 (fun y _ hy => ?_) (by omega) (by omega)
  cases hh : hasKid (nd l y) c with
  | false => rfl
  | true =>
    obtain ⟨m, h1, h2⟩ := (hasKid_iff _ _).1 hh
    obtain ⟨m', h3, h4⟩ := (hasKid_iff _ _).1 hk
    have := one_parent h (show y < l.length by omega) hx h1 h3 (h2.trans h4.symm)
    omega
theorem par_in {l : List Nd} (h : nodesOkB l = true) (A : Nat) : A < l.length → ∀ i : Nat, rd (startsL l) (A : Int) ≤ i → i < A → (i : Int) < parOf l i ∧ parOf l i ≤ A := by
  induction A using Nat.strongRecOn with
  | ind A ih =>
    intro hA i h0 h1
    obtain ⟨m, k1, k2, k3, k4, k5⟩ := down_tile (startsL_ok h).2.1 _ _ _ (by omega) (by omega) ((startsL_ok h).2.2 A hA) i h0 (by omega)
    have hk := ok_kids h A hA m k1
    obtain ⟨q, hq⟩ : ∃ q : Nat, rd (kids (nd l A)) (m : Int) = (q : Int) := ⟨(rd (kids (nd l A)) (m : Int)).toNat, by omega⟩
    by_cases hi : i = q
    · have : hasKid (nd l A) i = true := (hasKid_iff _ _).2 ⟨m, k1, by omega⟩
      rw [par_eq h i A hA this]
      omega
    · rw [hq] at k2 k3 k4
      have := ih q (by omega) (by omega) i k2 (by omega)
      omega
end Go.Proofs.YtifomiglajcanaaGreatDoorE

namespace Go.Proofs.YtifomiglajcanaaGreatDoorE
open Go.Ev
set_option linter.unusedVariables false
set_option linter.unusedSimpArgs false
theorem set_getD_eq {α : Type} (l : List α) (i : Nat) (x d : α) (h : i < l.length) : (l.set i x).getD i d = x := by simp [List.getD, h]
theorem set_getD_ne {α : Type} (l : List α) (i j : Nat) (x d : α) (h : i ≠ j) : (l.set i x).getD j d = l.getD j d := by simp [List.getD, List.getElem?_set_ne h]
theorem ext_getD {α : Type} (d : α) {l m : List α} (h : l.length = m.length) (e : ∀ i, i < l.length → l.getD i d = m.getD i d) : l = m := by
  refine List.ext_getElem h fun i h1 h2 => ?_
  have := e i h1
  simpa [List.getD, h1, h2] using this
/-! ### the reference's search -/
theorem spec_has_l0 (ks : List Int) (c : Int) (hn : ks.length ≤ 3) (K : Nat) (e : Nat) : ∀ (k j : Nat), j + e = ks.length → e < k → spec_l4Has.l0 ks c K k j = some (if hasFrom ks c e j = true then .inl true else .inr ()) := by
  induction e with
  | zero =>
    intro k j hj hk
    obtain ⟨k, rfl⟩ := succ_of hk
    rw [spec_l4Has.l0, if_neg (by omega)]
    rfl
  | succ e ih =>
    intro k j hj hk
    obtain ⟨k, rfl⟩ := succ_of hk
    rw [spec_l4Has.l0, if_pos (by omega), at_getD ks 0 j (by omega), Option.bind_some, hasFrom, rd_nat, w64_of (by omega) (by omega)]
    by_cases h : ks.getD j 0 = c
    · rw [if_pos h, if_pos h]; rfl
    · rw [if_neg h, if_neg h]
      exact ih k (j + 1) (by omega) (by omega)
theorem spec_has (n : Nd) (c : Int) (K : Nat) (hk : 4 ≤ K) : spec_l4Has.f K (kids n) c = some (hasKid n c) := by
  have h1 := kids_len n
  have h2 := arity_le n.Kind
  unfold spec_l4Has.f hasKid
  simp only [jn]
  have := spec_has_l0 (kids n) c (by omega) K (kids n).length K 0 (by omega) (by omega)
  rw [← h1]
  rw [show (0 : Int) = ((0 : Nat) : Int) from rfl, this]
  cases hasFrom (kids n) c (kids n).length 0 <;> rfl
theorem spec_par_l0 {l : List Nd} (hl : l.length ≤ 150) (c : Int) (K : Nat) (hK : 1000 ≤ K) (d : Nat) : ∀ (k i : Nat), i + d = l.length → d < k → spec_ParentOf.l0 l c K k i = some (if parFrom l c d i ≥ 0 then .inl (parFrom l c d i) else .inr ()) := by
  induction d with
  | zero =>
    intro k i hi hk
    obtain ⟨k, rfl⟩ := succ_of (show 0 < k by omega)
    rw [spec_ParentOf.l0, if_neg (by omega)]
    rfl
  | succ d ih =>
    intro k i hi hk
    obtain ⟨k, rfl⟩ := succ_of (show 0 < k by omega)
    rw [spec_ParentOf.l0, if_pos (by omega), at_nd l i (by omega), Option.bind_some, spec_kids, Option.bind_some, spec_has _ _ K (by omega), Option.bind_some, w64_of (by omega) (by omega), parFrom]
    by_cases h : hasKid (nd l i) c = true
    · rw [if_pos h, if_pos h, if_pos (by omega)]
    · rw [if_neg h, if_neg h]
      exact ih k (i + 1) (by omega) (by omega)
theorem parOf_ge (l : List Nd) (c : Int) : -1 ≤ parOf l c := by
  have : ∀ d i, -1 ≤ parFrom l c d i := by
    intro d
    induction d with
    | zero => intro i; simp [parFrom]
    | succ d ih =>
      intro i
      simp only [parFrom]
      split
      · omega
      · exact ih (i + 1)
  exact this l.length 0
theorem spec_par {l : List Nd} (h : nodesOkB l = true) (hsm : ∀ n ∈ l, small n) (c : Int) (K : Nat) (hk : big ≤ K) : spec_ParentOf.f K l c = some (parOf l c) := by
  have hk' := hk
  unfold big at hk'
  have hlen := ok_len h
  unfold spec_ParentOf.f
  simp only [jn]
  rw [spec_nodesOk l (by omega) hsm K hk, Option.bind_some, h, if_neg (by simp)]
  have := spec_par_l0 hlen.2 c K (by omega) l.length K 0 (by omega) (by omega)
  rw [show (0 : Int) = ((0 : Nat) : Int) from rfl, this]
  have g := parOf_ge l c
  show lb (some (if parOf l c ≥ 0 then _ else _)) _ _ = _
  by_cases q : parOf l c ≥ 0
  · rw [if_pos q]; rfl
  · rw [if_neg q, show parOf l c = -1 by omega]; rfl
/-! ### the program's table -/
def pars (l : List Nd) : List Int := (List.range l.length).map fun c : Nat => parOf l (c : Int)
theorem pars_len (l : List Nd) : (pars l).length = l.length := by simp [pars]
theorem pars_at (l : List Nd) (c : Nat) (hc : c < l.length) : (pars l).getD c 0 = parOf l c := by simp [pars, List.getD, hc]
theorem at_pars (l : List Nd) (c : Nat) (hc : c < l.length) : at_ (pars l) (c : Int) = some (parOf l c) := by rw [at_getD (pars l) 0 c (by rw [pars_len]; exact hc), pars_at l c hc]
theorem impl_par_l0 {l : List Nd} (hl : l.length ≤ 150) (K : Nat) (d : Nat) : ∀ (k i : Nat) (p : List Int), i + d = l.length → d < k → p.length = l.length → (∀ c, c < i → p.getD c 0 = -1) → ∃ p', impl_parents.l0 l K k i p = some p' ∧ p'.length = l.length ∧ ∀ c, c < l.length → p'.getD c 0 = -1 := by
  induction d with
  | zero =>
    intro k i p hi hk hp hc
    obtain ⟨k, rfl⟩ := succ_of (show 0 < k by omega)
    rw [impl_parents.l0, if_neg (by simp only [List.length_replicate, Int.toNat_natCast]; omega)]
    exact ⟨p, rfl, hp, fun c h => hc c (by omega)⟩
  | succ d ih =>
    intro k i p hi hk hp hc
    obtain ⟨k, rfl⟩ := succ_of (show 0 < k by omega)
    rw [impl_parents.l0, if_pos (by simp only [List.length_replicate, Int.toNat_natCast]; omega), at_getD p 0 i (by omega), Option.bind_some, w64_of (by omega) (by omega), Int.toNat_natCast]
    refine ih k (i + 1) (p.set i (-1)) (by omega) (by omega) (by simpa using hp) fun c hc' => ?_
    by_cases hci : c = i
    · subst hci; rw [set_getD_eq _ _ _ _ (by omega)]
    · rw [set_getD_ne _ _ _ _ _ (by omega)]; exact hc c (by omega)
theorem impl_par_l2 {l : List Nd} (h : nodesOkB l = true) (i : Nat) (hi : i < l.length) (K : Nat) (e : Nat) : ∀ (k j : Nat) (p : List Int), j + e = arityN (nd l i).Kind → e < k → p.length = l.length →
    ∃ p' : List Int, impl_parents.l2 i (kids (nd l i)) K k j p = some p' ∧ p'.length = l.length ∧ (∀ c : Nat, c < l.length → p'.getD c 0 = if hasFrom (kids (nd l i)) c e j = true then (i : Int) else p.getD c 0) := by
  have hlen := ok_len h
  have ha := arity_le (nd l i).Kind
  have hk' := kids_len (nd l i)
  induction e with
  | zero =>
    intro k j p hj hk hp
    obtain ⟨k, rfl⟩ := succ_of hk
    rw [impl_parents.l2, if_neg (by omega)]
    exact ⟨p, rfl, hp, fun c _ => by simp [hasFrom]⟩
  | succ e ih =>
    intro k j p hj hk hp
    obtain ⟨k, rfl⟩ := succ_of hk
    have hb := ok_kids h i hi j (by omega)
    obtain ⟨q, hq⟩ : ∃ q : Nat, rd (kids (nd l i)) (j : Int) = (q : Int) := ⟨(rd (kids (nd l i)) (j : Int)).toNat, by omega⟩
    obtain ⟨p', h1, h2, h3⟩ := ih k (j + 1) (p.set q i) (by omega) (by omega) (by simpa using hp)
    refine ⟨p', ?_, h2, fun c hc => ?_⟩
    · rw [impl_parents.l2, if_pos (by omega), at_rd _ (j : Int) (by omega) (by omega), Option.bind_some, hq, at_getD p 0 q (by omega), Option.bind_some, w64_of (by omega) (by omega), Int.toNat_natCast]
      exact h1
    · have hs : hasFrom (kids (nd l i)) c (e + 1) j = (decide (rd (kids (nd l i)) (j : Int) = c) || hasFrom (kids (nd l i)) c e (j + 1)) := by
        simp only [hasFrom]
        by_cases hx : rd (kids (nd l i)) (j : Int) = c
        · rw [if_pos hx, decide_eq_true hx, Bool.true_or]
        · rw [if_neg hx, decide_eq_false hx, Bool.false_or]
      rw [h3 c hc, hs, hq]
      by_cases hcq : q = c
      · subst hcq
        rw [set_getD_eq _ _ _ _ (by omega)]
        simp
      · rw [set_getD_ne _ _ _ _ _ hcq, decide_eq_false (by omega), Bool.false_or]
theorem impl_par_l1 {l : List Nd} (h : nodesOkB l = true) (K : Nat) (hK : 1000 ≤ K) (d : Nat) : ∀ (k i : Nat) (p : List Int), i + d = l.length → d < k → p.length = l.length → (∀ c : Nat, c < l.length → p.getD c 0 = lastPar l c i) → impl_parents.l1 l K k i p = some (pars l) := by
  have hlen := ok_len h
  induction d with
  | zero =>
    intro k i p hi hk hp hc
    obtain ⟨k, rfl⟩ := succ_of (show 0 < k by omega)
    rw [impl_parents.l1, if_neg (by omega)]
    refine congrArg some (ext_getD 0 (by rw [pars_len, hp]) fun c hc' => ?_)
    rw [pars_at l c (by omega), hc c (by omega)]
    exact last_par h c i (by omega) fun x h1 h2 => by omega
  | succ d ih =>
    intro k i p hi hk hp hc
    obtain ⟨k, rfl⟩ := succ_of (show 0 < k by omega)
    obtain ⟨p', h1, h2, h3⟩ := impl_par_l2 h i (by omega) K (arityN (nd l i).Kind) K 0 p (by omega) (by have := arity_le (nd l i).Kind; omega) hp
    rw [impl_parents.l1, if_pos (by omega)]
    simp only [jn]
    rw [at_nd l i (by omega), Option.bind_some, impl_kids, Option.bind_some]
    rw [show (0 : Int) = ((0 : Nat) : Int) from rfl, h1, Option.bind_some, w64_of (by omega) (by omega)]
    refine ih k (i + 1) p' (by omega) (by omega) h2 fun c hc' => ?_
    rw [h3 c hc', hc c hc']
    rfl
theorem impl_pars {l : List Nd} (h : nodesOkB l = true) (K : Nat) (hk : 2000 ≤ K) : impl_parents.f K l = some (pars l) := by
  have hlen := ok_len h
  unfold impl_parents.f
  simp only [jn]
  obtain ⟨p', h1, h2, h3⟩ := impl_par_l0 hlen.2 K l.length K 0 (List.replicate l.length 0) (by omega) (by omega) (by simp) (fun c h => by omega)
  rw [gd_pos (by omega), Int.toNat_natCast, show (0 : Int) = ((0 : Nat) : Int) from rfl, show (List.replicate l.length ((0 : Nat) : Int)) = List.replicate l.length (0 : Int) from rfl, h1, Option.bind_some,
    impl_par_l1 h K (by omega) l.length K 0 p' (by omega) (by omega) h2 (fun c hc => by rw [h3 c hc]; rfl)]
  rfl
/-! ### homes -/
def bindN (n : Nd) (x : Int) : List ByteArray × List Int :=
  if n.Kind = 3 then ([n.Name], [0]) else if n.Kind = 5 ∨ n.Kind = 19 then (if x = n.B then ([n.Name], [0]) else ([], []))
  else if n.Kind = 6 then (if x = n.A then ([n.Other, n.Name], [1, 0]) else ([n.Name], [0])) else if n.Kind = 14 then (if x = n.C then ([n.Other, n.Name], [1, 0]) else ([], [])) else ([], [])
theorem bind_len (n : Nd) (x : Int) : (bindN n x).2.length = (bindN n x).1.length ∧ (bindN n x).1.length ≤ 2 := by
  unfold bindN
  repeat' split
  all_goals simp
theorem spec_bound (K : Nat) (n : Nd) (x : Int) : spec_l6Bound.f K n x = some (bindN n x) := by
  unfold spec_l6Bound.f bindN
  simp only [jn]
  by_cases h3 : n.Kind = 3
  · simp [h3]
  by_cases h5 : n.Kind = 5
  · by_cases hx : x = n.B <;> simp [h5, hx]
  by_cases h19 : n.Kind = 19
  · by_cases hx : x = n.B <;> simp [h19, hx]
  by_cases h6 : n.Kind = 6
  · by_cases hx : x = n.A <;> simp [h6, hx]
  by_cases h14 : n.Kind = 14
  · by_cases hx : x = n.C <;> simp [h14, hx]
  simp [h3, h5, h19, h6, h14]
theorem impl_bound (K : Nat) (n : Nd) (x : Int) : impl_bindsIn.f K n x = some (bindN n x) := by
  unfold impl_bindsIn.f bindN
  simp only [jn]
  by_cases h3 : n.Kind = 3
  · simp [h3]
  by_cases h5 : n.Kind = 5
  · by_cases hx : x = n.B <;> simp [h5, hx]
  by_cases h19 : n.Kind = 19
  · by_cases hx : x = n.B <;> simp [h19, hx]
  by_cases h6 : n.Kind = 6
  · by_cases hx : x = n.A <;> simp [h6, hx]
  by_cases h14 : n.Kind = 14
  · by_cases hx : x = n.C <;> simp [h14, hx]
  simp [h3, h5, h19, h6, h14]
/-- The role of a name among names. -/
def roleFrom (ns : List ByteArray) (rs : List Int) (s : ByteArray) : Nat → Nat → Option Int
  | 0, _ => none
  | e + 1, j => if (ns.getD j ⟨#[]⟩).toList = s.toList then some (rd rs (j : Int)) else roleFrom ns rs s e (j + 1)
def roleB (n : Nd) (x : Int) (s : ByteArray) : Option Int := roleFrom (bindN n x).1 (bindN n x).2 s (bindN n x).1.length 0
abbrev Bi := impl_Bind
def noB : Bi := ⟨-1, -1⟩
def binderUp (l : List Nd) (s : ByteArray) : Nat → Int → Int → Bi
  | 0, _, _ => noB
  | d + 1, x, p => if p ≥ 0 then (match roleB (nd l p.toNat) x s with | some r => ⟨p, r⟩ | none => binderUp l s d p (parOf l p)) else noB
theorem binderUp_stop (l : List Nd) (s : ByteArray) (d : Nat) (x p : Int) (h : p < 0) : binderUp l s d x p = noB := by
  cases d with
  | zero => rfl
  | succ d => simp only [binderUp]; rw [if_neg (by omega)]
theorem spec_role (l : List Nd) (i : Nat) (hi : i < l.length) (q x : Int) (n : Nd) (K : Nat) (e : Nat) : ∀ (k j : Nat), j + e = (bindN n x).1.length → e < k →
    spec_BinderOf.l1 l i q (bindN n x).1 (bindN n x).2 K k j = some (match roleFrom (bindN n x).1 (bindN n x).2 (nd l i).Name e j with | some r => .inl ⟨q, r⟩ | none => .inr ()) := by
  have hb := bind_len n x
  induction e with
  | zero =>
    intro k j hj hk
    obtain ⟨k, rfl⟩ := succ_of hk
    rw [spec_BinderOf.l1, if_neg (by omega)]
    rfl
  | succ e ih =>
    intro k j hj hk
    obtain ⟨k, rfl⟩ := succ_of hk
    rw [spec_BinderOf.l1, if_pos (by omega), at_getD _ ⟨#[]⟩ j (by omega), Option.bind_some, at_nd l i hi, Option.bind_some, at_getD _ 0 j (by omega), Option.bind_some, roleFrom, rd_nat, w64_of (by omega) (by omega)]
    by_cases h : ((bindN n x).1.getD j ⟨#[]⟩).toList = (nd l i).Name.toList
    · rw [if_pos (by rw [h]; simp), if_pos h]
    · rw [if_neg (by simpa using h), if_neg h]
      exact ih k (j + 1) (by omega) (by omega)
def endB (r : Bi) : Option (Bi ⊕ Unit) := some (if r.Node ≥ 0 then .inl r else .inr ())
theorem spec_up {l : List Nd} (h : nodesOkB l = true) (hsm : ∀ n ∈ l, small n) (i : Nat) (hi : i < l.length) (K : Nat) (hK : big ≤ K) (d : Nat) : ∀ (k : Nat) (x p : Int), d < k → p < l.length → l.length ≤ p + d ∨ p < 0 → 0 < d → spec_BinderOf.l0 l i K k x p = endB (binderUp l (nd l i).Name d x p) := by
  have hK' := hK
  unfold big at hK'
  induction d with
  | zero => intro k x p hk hp hd h0; omega
  | succ d ih =>
    intro k x p hk hp hd h0
    obtain ⟨k, rfl⟩ := succ_of (show 0 < k by omega)
    rw [spec_BinderOf.l0]
    simp only [binderUp, jn]
    by_cases hp0 : p ≥ 0
    · obtain ⟨q, rfl⟩ : ∃ q : Nat, p = (q : Int) := ⟨p.toNat, by omega⟩
      have hq := parOf_gt h q
      have hq' := parOf_lt l q
      have hb := bind_len (nd l q) x
      rw [if_pos hp0, if_pos hp0, at_nd l q (by omega), Option.bind_some, spec_bound, Option.bind_some, Int.toNat_natCast]
      rw [show (0 : Int) = ((0 : Nat) : Int) from rfl, spec_role l i hi q x (nd l q) K (bindN (nd l q) x).1.length K 0 (by omega) (by omega)]
      unfold roleB
      cases hro : roleFrom (bindN (nd l q) x).1 (bindN (nd l q) x).2 (nd l i).Name (bindN (nd l q) x).1.length 0 with
      | some r =>
        show _ = some (if (q : Int) ≥ 0 then _ else _)
        rw [if_pos (by omega)]; rfl
      | none =>
        show (spec_ParentOf.f K l q).bind _ = _
        rw [spec_par h hsm q K hK, Option.bind_some]
        by_cases hd0 : d = 0
        · subst hd0
          have e : parOf l q = -1 := by omega
          rw [e, binderUp_stop _ _ _ _ _ (by omega)]
          obtain ⟨k2, rfl⟩ := succ_of (show 0 < k by omega)
          rw [spec_BinderOf.l0, if_neg (by omega)]
          rfl
        · exact ih k q (parOf l q) (by omega) hq' (by omega) (by omega)
    · rw [if_neg hp0, if_neg hp0]
      rfl
theorem up_end (l : List Nd) (s : ByteArray) (d : Nat) : ∀ x p, binderUp l s d x p = noB ∨ 0 ≤ (binderUp l s d x p).Node := by
  induction d with
  | zero => intro x p; exact .inl rfl
  | succ d ih =>
    intro x p
    simp only [binderUp]
    split
    · split
      · right; assumption
      · exact ih _ _
    · exact .inl rfl
theorem end_lb (r : Bi) (h : r = noB ∨ 0 ≤ r.Node) : lb (endB r) (fun r => some r) (fun (_ : Unit) => some noB) = some r := by
  unfold endB
  by_cases q : r.Node ≥ 0
  · rw [if_pos q]; rfl
  · rw [if_neg q]
    rcases h with rfl | h
    · rfl
    · omega
def binderB (l : List Nd) (i : Nat) : Bi := if (nd l i).Kind = 1 then binderUp l (nd l i).Name (l.length + 1) i (parOf l i) else noB
theorem spec_binder {l : List Nd} (h : nodesOkB l = true) (hsm : ∀ n ∈ l, small n) (i : Nat) (hi : i < l.length) (K : Nat) (hk : big ≤ K) : spec_BinderOf.f K l i = some (binderB l i) := by
  have hk' := hk
  unfold big at hk'
  have hlen := ok_len h
  unfold spec_BinderOf.f binderB
  simp only [jn]
  have hin : inB (i : Int) 0 ((l.length : Int) - 1) = true := by unfold inB; simp; omega
  rw [spec_nodesOk l (by omega) hsm K hk, Option.bind_some, h, if_neg (by simp), w64_of (by omega) (by omega), spec_inB, Option.bind_some, hin, if_neg (by simp), at_nd l i hi, Option.bind_some]
  by_cases h1 : (nd l i).Kind = 1
  · rw [if_pos h1, decide_eq_true h1, if_neg (by simp), spec_par h hsm _ K hk, Option.bind_some]
    have hg := parOf_gt h i
    have := spec_up h hsm i hi K hk (l.length + 1) K i (parOf l i) (by omega) (parOf_lt l i) (by omega) (by omega)
    rw [this]
    exact end_lb _ (up_end _ _ _ _ _)
  · rw [if_neg h1, decide_eq_false h1]
    rfl

/-! ### the program's -/
theorem impl_role {l : List Nd} (h : nodesOkB l = true) (c : Nat) (hc : c < l.length) (n : Nd) (x : Int) (s : ByteArray) (K : Nat) (e : Nat) : ∀ (k j : Nat), j + e = (bindN n x).1.length → e < k →
    impl_binderOf.l1 (pars l) s c (bindN n x).1 (bindN n x).2 K k j = some (match roleFrom (bindN n x).1 (bindN n x).2 s e j with | some r => .inl ⟨parOf l c, r⟩ | none => .inr ()) := by
  have hb := bind_len n x
  induction e with
  | zero =>
    intro k j hj hk
    obtain ⟨k, rfl⟩ := succ_of hk
    rw [impl_binderOf.l1, if_neg (by omega)]
    rfl
  | succ e ih =>
    intro k j hj hk
    obtain ⟨k, rfl⟩ := succ_of hk
    rw [impl_binderOf.l1, if_pos (by omega), at_getD _ ⟨#[]⟩ j (by omega), Option.bind_some, at_pars l c hc, Option.bind_some, at_getD _ 0 j (by omega), Option.bind_some, roleFrom, rd_nat, w64_of (by omega) (by omega)]
    by_cases hh : ((bindN n x).1.getD j ⟨#[]⟩).toList = s.toList
    · rw [if_pos (by rw [hh]; simp), if_pos hh]
    · rw [if_neg (by simpa using hh), if_neg hh]
      exact ih k (j + 1) (by omega) (by omega)
theorem impl_up {l : List Nd} (h : nodesOkB l = true) (s : ByteArray) (K : Nat) (hK : 1000 ≤ K) (d : Nat) : ∀ (k : Nat) (x : Nat), d < k → x < l.length → l.length ≤ parOf l x + d ∨ parOf l x < 0 → 0 < d → impl_binderOf.l0 l (pars l) s K k x = endB (binderUp l s d x (parOf l x)) := by
  induction d with
  | zero => intro k x hk hx hd h0; omega
  | succ d ih =>
    intro k x hk hx hd h0
    obtain ⟨k, rfl⟩ := succ_of (show 0 < k by omega)
    rw [impl_binderOf.l0, at_pars l x hx, Option.bind_some]
    simp only [binderUp, jn]
    have hp' := parOf_lt l x
    by_cases hp0 : parOf l x ≥ 0
    · obtain ⟨q, hq⟩ : ∃ q : Nat, parOf l x = (q : Int) := ⟨(parOf l x).toNat, by omega⟩
      have hr := fun n s => impl_role h x hx n x s K (bindN n x).1.length K 0 (by omega) (by have := bind_len n x; omega)
      rw [hq] at hp' hd hr ⊢
      have q0 : (q : Int) ≥ 0 := by omega
      simp only [q0, if_true, at_nd l q (by omega), Option.bind_some, impl_bound, Int.toNat_natCast]
      have hg := parOf_gt h q
      have hg' := parOf_lt l q
      rw [show (0 : Int) = ((0 : Nat) : Int) from rfl, hr (nd l q) s]
      unfold roleB
      cases hro : roleFrom (bindN (nd l q) x).1 (bindN (nd l q) x).2 s (bindN (nd l q) x).1.length 0 with
      | some r =>
        show _ = some (if (q : Int) ≥ 0 then _ else _)
        rw [if_pos (by omega)]; rfl
      | none =>
        show impl_binderOf.l0 l (pars l) s K k q = _
        by_cases hd0 : d = 0
        · subst hd0
          have e : parOf l q = -1 := by omega
          rw [e, binderUp_stop _ _ _ _ _ (by omega)]
          obtain ⟨k2, rfl⟩ := succ_of (show 0 < k by omega)
          rw [impl_binderOf.l0, at_pars l q (by omega), Option.bind_some, e, if_neg (by omega)]
          rfl
        · exact ih k q (by omega) (by omega) (by omega) (by omega)
    · rw [if_neg hp0, if_neg hp0]
      rfl
def bindersFrom (l : List Nd) : Nat → Nat → List Bi
  | 0, _ => []
  | d + 1, i => binderB l i :: bindersFrom l d (i + 1)
def bindersL (l : List Nd) : List Bi := bindersFrom l l.length 0
theorem bindersFrom_len (l : List Nd) (d : Nat) : ∀ i, (bindersFrom l d i).length = d := by
  induction d with
  | zero => intro i; rfl
  | succ d ih => intro i; simp [bindersFrom, ih]
theorem bindersFrom_at (l : List Nd) (d : Nat) : ∀ i j, j < d → (bindersFrom l d i).getD j noB = binderB l (i + j) := by
  induction d with
  | zero => intro i j hj; omega
  | succ d ih =>
    intro i j hj
    cases j with
    | zero => simp [bindersFrom]
    | succ j =>
      have := ih (i + 1) j (by omega)
      simp only [bindersFrom, List.getD_cons_succ]
      rw [this, show i + 1 + j = i + (j + 1) by omega]
theorem bindersL_len (l : List Nd) : (bindersL l).length = l.length := bindersFrom_len l _ _
theorem at_binders (l : List Nd) (j : Nat) (hj : j < l.length) : at_ (bindersL l) (j : Int) = some (binderB l j) := by
  have := bindersFrom_at l l.length 0 j hj
  rw [Nat.zero_add] at this
  rw [at_getD _ noB j (by rw [bindersL_len]; exact hj)]
  exact congrArg some this
theorem impl_binders_l0 {l : List Nd} (h : nodesOkB l = true) (K : Nat) (hK : 1000 ≤ K) (d : Nat) : ∀ (k i : Nat) (y : List Bi), i + d = l.length → d < k → y.length + d ≤ 4000000 → impl_binders.l0 l (pars l) K k i y = some (y ++ bindersFrom l d i) := by
  have hlen := ok_len h
  induction d with
  | zero =>
    intro k i y hi hk hy
    obtain ⟨k, rfl⟩ := succ_of (show 0 < k by omega)
    rw [impl_binders.l0, if_neg (by omega), bindersFrom, List.append_nil]
  | succ d ih =>
    intro k i y hi hk hy
    obtain ⟨k, rfl⟩ := succ_of (show 0 < k by omega)
    rw [impl_binders.l0, if_pos (by omega), at_nd l i (by omega), Option.bind_some, w64_of (by omega) (by omega)]
    simp only [jn]
    have go : ∀ b : Bi, b = binderB l i → gd ((y.length + 1) * 16 ≤ 140737488355328) (impl_binders.l0 l (pars l) K k ((i : Int) + 1) (y ++ [b])) = some (y ++ bindersFrom l (d + 1) i) := by
      intro b hb
      rw [gd_pos (by omega)]
      have := ih k (i + 1) (y ++ [b]) (by omega) (by omega) (by simp; omega)
      rw [List.append_assoc] at this
      rw [bindersFrom, ← hb]
      exact this
    by_cases h1 : (nd l i).Kind = 1
    · have hg := parOf_gt h i
      rw [if_pos h1]
      unfold impl_binderOf.f
      simp only [jn]
      rw [impl_up h (nd l i).Name K hK (l.length + 1) K i (by omega) (by omega) (by omega) (by omega)]
      have := end_lb _ (up_end l (nd l i).Name (l.length + 1) i (parOf l i))
      unfold noB at this
      rw [this, Option.bind_some]
      exact go _ (by unfold binderB; rw [if_pos h1])
    · rw [if_neg h1]
      exact go _ (by unfold binderB; rw [if_neg h1]; rfl)
theorem impl_bindersL {l : List Nd} (h : nodesOkB l = true) (K : Nat) (hk : 3000 ≤ K) : impl_binders.f K l = some (bindersL l) := by
  have hlen := ok_len h
  unfold impl_binders.f bindersL
  simp only [jn]
  rw [impl_pars h K (by omega), Option.bind_some]
  have := impl_binders_l0 h K (by omega) l.length K 0 [] (by omega) (by omega) (by simp; omega)
  rw [show (0 : Int) = ((0 : Nat) : Int) from rfl, this]
  rfl
end Go.Proofs.YtifomiglajcanaaGreatDoorE
