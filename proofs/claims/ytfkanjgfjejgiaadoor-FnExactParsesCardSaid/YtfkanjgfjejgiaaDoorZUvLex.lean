/- The program's Lex and the reference's Lex cut every text alike. -/
import Derived.Test.YtfkanjgfjejgiaaDoorZUvNum
set_option linter.unusedSimpArgs false
set_option linter.unusedVariables false
namespace Go.Proofs.YtfkanjgfjejgiaaDoorE
open Go.Ev Go.RowKit
set_option linter.unusedVariables false
abbrev Tk := impl_Token
/-- Where a run of bytes from lo to hi ends. -/
def runE (s : ByteArray) (lo hi : Nat) : Nat → Nat → Nat
  | 0, i => i
  | d + 1, i => if h : i < s.size then (if lo ≤ s[i].toNat ∧ s[i].toNat ≤ hi then runE s lo hi d (i + 1) else i) else i
theorem runE_ge (s : ByteArray) (lo hi : Nat) : ∀ (d i : Nat), i ≤ runE s lo hi d i
  | 0, i => Nat.le_refl _
  | d + 1, i => by
    rw [runE]
    split
    · split
      · have := runE_ge s lo hi d (i + 1); omega
      · exact Nat.le_refl _
    · exact Nat.le_refl _
theorem runE_le (s : ByteArray) (lo hi : Nat) : ∀ (d i : Nat), i ≤ s.size → runE s lo hi d i ≤ s.size
  | 0, i, h => h
  | d + 1, i, h => by
    rw [runE]
    split
    · split
      · exact runE_le s lo hi d (i + 1) (by omega)
      · exact h
    · exact h
theorem runE_in (s : ByteArray) (lo hi : Nat) : ∀ (d i j : Nat), i ≤ j → j < runE s lo hi d i → ∃ h : j < s.size, lo ≤ s[j].toNat ∧ s[j].toNat ≤ hi
  | 0, i, j, h, h1 => by rw [runE] at h1; omega
  | d + 1, i, j, h, h1 => by
    rw [runE] at h1
    split at h1
    · rename_i hi1
      split at h1
      · rename_i hq
        by_cases e : i = j
        · subst e; exact ⟨hi1, hq⟩
        · exact runE_in s lo hi d (i + 1) j (by omega) h1
      · omega
    · omega
theorem runE_first (s : ByteArray) (lo hi d i : Nat) (h : i < s.size) (hq : lo ≤ s[i].toNat ∧ s[i].toNat ≤ hi) : i + 1 ≤ runE s lo hi (d + 1) i := by
  rw [runE, dif_pos h, if_pos hq]
  exact runE_ge s lo hi d (i + 1)
theorem impl_run_l0 (s : ByteArray) (lo hi : Nat) (hs : s.size ≤ 4000) (K d : Nat) : ∀ (k i : Nat), i ≤ s.size → s.size - i ≤ d → d < k → impl_runOf.l0 s lo hi K k i = some ((runE s lo hi d i : Nat) : Int) := by
  induction d with
  | zero =>
    intro k i h0 hdd hk
    obtain ⟨k, rfl⟩ := succ_of hk
    rw [impl_runOf.l0]
    simp only [jn]
    rw [if_neg (by omega), if_neg (by simp)]
    rfl
  | succ d ih =>
    intro k i h0 hdd hk
    obtain ⟨k, rfl⟩ := succ_of (show 0 < k by omega)
    rw [impl_runOf.l0, runE]
    simp only [jn]
    by_cases hl : i < s.size
    · have e : w64 ((i : Int) + 1) = ((i + 1 : Nat) : Int) := by rw [w64_of (by omega) (by omega)]; omega
      rw [if_pos (by omega), dif_pos hl]
      simp only [atS_nat s i hl, Option.bind_some]
      by_cases h1 : lo ≤ s[i].toNat
      · rw [if_pos (by omega)]
        by_cases h2 : s[i].toNat ≤ hi
        · rw [if_pos (by simp; omega), if_pos ⟨h1, h2⟩, e]
          exact ih k (i + 1) (by omega) (by omega) (by omega)
        · rw [if_neg (by simp; omega), if_neg (by omega)]
      · rw [if_neg (by omega), if_neg (by simp), if_neg (by omega)]
    · rw [if_neg (by omega), if_neg (by simp), dif_neg hl]
theorem impl_run (s : ByteArray) (lo hi : Nat) (hs : s.size ≤ 4000) (K i : Nat) (hi' : i ≤ s.size) (hk : s.size < K) : impl_runOf.f K s i lo hi = some ((runE s lo hi s.size i : Nat) : Int) := by
  unfold impl_runOf.f
  simp only [jn]
  rw [impl_run_l0 s lo hi hs K s.size K i hi' (by omega) hk]
  rfl
theorem spec_letter (K : Nat) (b : UInt8) : spec_l2Letter.f K (b.toNat : Int) = some (decide (97 ≤ b.toNat ∧ b.toNat ≤ 122)) := by
  unfold spec_l2Letter.f
  by_cases h1 : 97 ≤ b.toNat
  · rw [if_pos (by omega)]; congr 1; simp [h1]; omega
  · rw [if_neg (by omega)]; simp [h1]
theorem spec_digit (K : Nat) (b : UInt8) : spec_l2Digit.f K (b.toNat : Int) = some (decide (48 ≤ b.toNat ∧ b.toNat ≤ 57)) := by
  unfold spec_l2Digit.f
  by_cases h1 : 48 ≤ b.toNat
  · rw [if_pos (by omega)]; congr 1; simp [h1]; omega
  · rw [if_neg (by omega)]; simp [h1]
theorem spec_run_l0 (s : ByteArray) (w : Bool) (lo hi : Nat) (hw : (lo, hi) = bif w then (97, 122) else (48, 57)) (hs : s.size ≤ 4000) (K d : Nat) : ∀ (k i : Nat), i ≤ s.size → s.size - i ≤ d → d < k → spec_l2Run.l0 s w K k i = some ((runE s lo hi d i : Nat) : Int) := by
  induction d with
  | zero =>
    intro k i h0 hi hk
    obtain ⟨k, rfl⟩ := succ_of hk
    rw [spec_l2Run.l0]
    simp only [jn]
    rw [if_neg (by omega), if_neg (by simp)]
    rfl
  | succ d ih =>
    intro k i h0 hi hk
    obtain ⟨k, rfl⟩ := succ_of (show 0 < k by omega)
    rw [spec_l2Run.l0, runE]
    simp only [jn]
    by_cases hl : i < s.size
    · have e : w64 ((i : Int) + 1) = ((i + 1 : Nat) : Int) := by rw [w64_of (by omega) (by omega)]; omega
      have ih' := ih k (i + 1) (by omega) (by omega) (by omega)
      rw [if_pos (by omega), dif_pos hl]
      cases w
      · simp only [cond_false, Prod.mk.injEq] at hw
        obtain ⟨rfl, rfl⟩ := hw
        rw [if_neg (by simp), if_pos (by simp), atS_nat s i hl, Option.bind_some, spec_digit, Option.bind_some]
        by_cases hq : 48 ≤ s[i].toNat ∧ s[i].toNat ≤ 57
        · rw [if_pos (by simp [hq]), if_pos hq, e]; exact ih'
        · rw [if_neg (by simpa using hq), if_neg hq]
      · simp only [cond_true, Prod.mk.injEq] at hw
        obtain ⟨rfl, rfl⟩ := hw
        rw [if_pos rfl, atS_nat s i hl, Option.bind_some, spec_letter, Option.bind_some]
        by_cases hq : 97 ≤ s[i].toNat ∧ s[i].toNat ≤ 122
        · rw [if_pos (by simp [hq]), if_pos (by simp), if_pos hq, e]; exact ih'
        · rw [if_neg (by simpa using hq), if_neg (by simp), if_neg (by simp), if_neg hq]
    · rw [if_neg (by omega), if_neg (by simp), dif_neg hl]
theorem spec_run (s : ByteArray) (w : Bool) (lo hi : Nat) (hw : (lo, hi) = bif w then (97, 122) else (48, 57)) (hs : s.size ≤ 4000) (K i : Nat) (hi' : i ≤ s.size) (hk : s.size < K) : spec_l2Run.f K s i w = some ((runE s lo hi s.size i : Nat) : Int) := by
  unfold spec_l2Run.f
  simp only [jn]
  rw [spec_run_l0 s w lo hi hw hs K s.size K i hi' (by omega) hk]
  rfl
/-- Where a remark ends. -/
def skipE (s : ByteArray) : Nat → Nat → Nat
  | 0, i => i
  | d + 1, i => if h : i < s.size then (if s[i].toNat = 10 then i else skipE s d (i + 1)) else i
theorem skipE_ge (s : ByteArray) : ∀ (d i : Nat), i ≤ skipE s d i
  | 0, i => Nat.le_refl _
  | d + 1, i => by
    rw [skipE]
    split
    · split
      · exact Nat.le_refl _
      · have := skipE_ge s d (i + 1); omega
    · exact Nat.le_refl _
theorem skipE_le (s : ByteArray) : ∀ (d i : Nat), i ≤ s.size → skipE s d i ≤ s.size
  | 0, i, h => h
  | d + 1, i, h => by
    rw [skipE]
    split
    · split
      · exact h
      · exact skipE_le s d (i + 1) (by omega)
    · exact h
theorem spec_skip_l1 (s : ByteArray) (hs : s.size ≤ 4000) (K d : Nat) : ∀ (k i : Nat), i ≤ s.size → s.size - i ≤ d → d < k → spec_Lex.l1 s K k i = some ((skipE s d i : Nat) : Int) := by
  induction d with
  | zero =>
    intro k i h0 hi hk
    obtain ⟨k, rfl⟩ := succ_of hk
    rw [spec_Lex.l1]
    simp only [jn]
    rw [if_neg (by omega), if_neg (by simp)]
    rfl
  | succ d ih =>
    intro k i h0 hi hk
    obtain ⟨k, rfl⟩ := succ_of (show 0 < k by omega)
    rw [spec_Lex.l1, skipE]
    simp only [jn]
    by_cases hl : i < s.size
    · have e : w64 ((i : Int) + 1) = ((i + 1 : Nat) : Int) := by rw [w64_of (by omega) (by omega)]; omega
      rw [if_pos (by omega), dif_pos hl, atS_nat s i hl, Option.bind_some]
      by_cases h1 : s[i].toNat = 10
      · rw [if_neg (by simp; omega), if_pos h1]
      · rw [if_pos (by simp; omega), if_neg h1, e]
        exact ih k (i + 1) (by omega) (by omega) (by omega)
    · rw [if_neg (by omega), if_neg (by simp), dif_neg hl]
theorem impl_skip (s : ByteArray) (K : Nat) : ∀ (k : Nat) (i : Int), impl_Lex.l1 s K k i = spec_Lex.l1 s K k i := by
  intro k
  induction k with
  | zero => intro i; rfl
  | succ k ih => intro i; rw [impl_Lex.l1, spec_Lex.l1]; simp only [ih]
/-- The token at a place. -/
def tokE (s : ByteArray) (i : Nat) (c : Nat) : Option Tk :=
  if c = 40 then some ⟨1, ⟨#[40]⟩, 0, i⟩ else if c = 41 then some ⟨2, ⟨#[41]⟩, 0, i⟩
  else if 97 ≤ c ∧ c ≤ 122 then (if wordB (s.extract i (runE s 97 122 s.size i)) = true then some ⟨3, s.extract i (runE s 97 122 s.size i), 0, i⟩ else none)
  else if 48 ≤ c ∧ c ≤ 57 then (if (readDec (s.extract i (runE s 48 57 s.size i))).2 = true ∧ (readDec (s.extract i (runE s 48 57 s.size i))).1 ≤ 65535 then some ⟨4, s.extract i (runE s 48 57 s.size i), (readDec (s.extract i (runE s 48 57 s.size i))).1, i⟩ else none)
  else none
def lexE (s : ByteArray) : Nat → Nat → List Tk → (List Tk × Int) ⊕ List Tk
  | 0, _, out => .inr out
  | d + 1, i, out => if h : i < s.size then
      (if s[i].toNat = 32 ∨ s[i].toNat = 10 then lexE s d (i + 1) out
       else if s[i].toNat = 35 then lexE s d (skipE s s.size i) out
       else match tokE s i s[i].toNat with
         | some t => lexE s d (i + t.Text.size) (out ++ [t])
         | none => .inl ([], (i : Int)))
    else .inr out
theorem extract_all (s : ByteArray) (lo hi i : Nat) : ∀ b ∈ (s.extract i (runE s lo hi s.size i)).data.toList, lo ≤ b.toNat ∧ b.toNat ≤ hi := by
  intro b hb
  obtain ⟨j, hj, rfl⟩ := List.getElem_of_mem hb
  have hj' : j < (s.extract i (runE s lo hi s.size i)).size := by rw [Lib.size_eq]; exact hj
  rw [ByteArray.size_extract] at hj'
  obtain ⟨h, q⟩ := runE_in s lo hi s.size i (i + j) (by omega) (by omega)
  have e : (s.extract i (runE s lo hi s.size i)).data.toList[j] = s[i + j] := by
    simp [ByteArray.data_extract, ByteArray.getElem_eq_getElem_data]
  rw [e]; exact q
theorem extract_size (s : ByteArray) (lo hi i : Nat) (hi' : i ≤ s.size) : (s.extract i (runE s lo hi s.size i)).size = runE s lo hi s.size i - i := by
  rw [ByteArray.size_extract]
  have := runE_le s lo hi s.size i hi'
  omega
theorem extract_one (s : ByteArray) (i : Nat) (h : i < s.size) : s.extract i (i + 1) = ⟨#[s[i]]⟩ := by
  apply ByteArray.ext
  have h' : i < s.data.size := h
  rw [ByteArray.data_extract]
  apply Array.ext
  · simp; omega
  · intro j h1 h2
    simp at h2; subst h2
    simp [ByteArray.getElem_eq_getElem_data]
end Go.Proofs.YtfkanjgfjejgiaaDoorE
