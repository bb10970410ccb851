/- The program's Lex and the reference's Lex: both are lexE. -/
import Derived.Test.YtfkanjgfjejgiaaDoorZUvLex
set_option linter.unusedSimpArgs false
set_option linter.unusedVariables false
namespace Go.Proofs.YtfkanjgfjejgiaaDoorE
open Go.Ev Go.RowKit
set_option linter.unusedVariables false
theorem tokE_some {s : ByteArray} {i : Nat} {t : Tk} (h : i < s.size) (e : tokE s i s[i].toNat = some t) : 1 ≤ t.Text.size ∧ i + t.Text.size ≤ s.size ∧ t.Text.size ≤ 4000 + s.size := by
  unfold tokE at e
  split at e
  · cases e; exact ⟨Nat.le_refl _, h, by show 1 ≤ _; omega⟩
  split at e
  · cases e; exact ⟨Nat.le_refl _, h, by show 1 ≤ _; omega⟩
  have key : ∀ lo hi, lo ≤ s[i].toNat ∧ s[i].toNat ≤ hi → 1 ≤ (s.extract i (runE s lo hi s.size i)).size ∧ i + (s.extract i (runE s lo hi s.size i)).size ≤ s.size ∧ (s.extract i (runE s lo hi s.size i)).size ≤ 4000 + s.size := fun lo hi hq => by
    rw [extract_size s lo hi i (by omega)]
    have h1 := runE_le s lo hi s.size i (by omega)
    obtain ⟨d, hd⟩ : ∃ d, s.size = d + 1 := ⟨s.size - 1, by omega⟩
    have h2 := runE_first s lo hi d i h hq
    rw [← hd] at h2
    omega
  split at e
  · rename_i hq
    split at e
    · cases e; exact key 97 122 hq
    · cases e
  split at e
  · rename_i hq
    split at e
    · cases e; exact key 48 57 hq
    · cases e
  · cases e
theorem read_dig (s : ByteArray) (i : Nat) (h : i < s.size) (hq : 48 ≤ s[i].toNat ∧ s[i].toNat ≤ 57) (K : Nat) (hk : 30 < K) : spec_ReadDec.f K (s.extract i (runE s 48 57 s.size i)) = some (readDec (s.extract i (runE s 48 57 s.size i))) := by
  refine spec_readDec _ (fun e => ?_) (extract_all s 48 57 i) K hk
  have h1 := extract_size s 48 57 i (by omega)
  obtain ⟨d, hd⟩ : ∃ d, s.size = d + 1 := ⟨s.size - 1, by omega⟩
  have h2 := runE_first s 48 57 d i h hq
  rw [← hd] at h2
  rw [Lib.size_eq, e] at h1
  simp at h1
  omega
theorem two_if {α : Type} {p q : Prop} [Decidable p] [Decidable q] {A B : α} (h : ¬ (p ∧ q)) : (if p then (if decide q = true then A else B) else (if false = true then A else B)) = B := by
  by_cases hp : p
  · rw [if_pos hp, if_neg]; simpa using fun hq => h ⟨hp, hq⟩
  · rw [if_neg hp, if_neg (by simp)]
theorem impl_token (s : ByteArray) (hs : s.size ≤ 4000) (i : Nat) (h : i < s.size) (K : Nat) (hk : 5000 < K) :
    ∃ t', impl_tokenAt.f K s i = some ((tokE s i s[i].toNat).getD t', (tokE s i s[i].toNat).isSome) := by
  have e1 : w64 ((i : Int) + 1) = ((i + 1 : Nat) : Int) := by rw [w64_of (by omega) (by omega)]; omega
  have hr : ∀ lo hi, runE s lo hi s.size i ≤ s.size ∧ i ≤ runE s lo hi s.size i := fun lo hi => ⟨runE_le s lo hi s.size i (by omega), runE_ge s lo hi s.size i⟩
  have hex : ∀ lo hi, (s.extract i (runE s lo hi s.size i)).size ≤ 4000 := fun lo hi => by rw [extract_size s lo hi i (by omega)]; have := (hr lo hi).1; omega
  unfold impl_tokenAt.f tokE
  rw [atS_nat s i h, Option.bind_some, e1, gd_pos (by omega)]
  simp only [jn, Int.toNat_natCast]
  by_cases c1 : s[i].toNat = 40
  · rw [if_pos (by omega), if_pos c1]
    refine ⟨⟨0, ⟨#[]⟩, 0, 0⟩, ?_⟩
    rw [extract_one s i h]
    have : s[i] = 40 := UInt8.toNat_inj.1 c1
    rw [this]; rfl
  rw [if_neg (by omega), if_neg c1]
  by_cases c2 : s[i].toNat = 41
  · rw [if_pos (by omega), if_pos c2]
    refine ⟨⟨0, ⟨#[]⟩, 0, 0⟩, ?_⟩
    rw [extract_one s i h]
    have : s[i] = 41 := UInt8.toNat_inj.1 c2
    rw [this]; rfl
  rw [if_neg (by omega), if_neg c2]
  by_cases c3 : 97 ≤ s[i].toNat ∧ s[i].toNat ≤ 122
  · rw [if_pos (by omega), if_pos c3]
    rw [if_pos (by simp; omega)]
    have := impl_run s 97 122 hs K i (by omega) (by omega)
    rw [show impl_runOf.f K s i 97 122 = _ from this, Option.bind_some, gd_pos (by have := hr 97 122; omega)]
    simp only [Int.toNat_natCast]
    rw [impl_word _ (by have := hex 97 122; omega) K (by have := hex 97 122; omega), Option.bind_some]
    cases hw : wordB (s.extract i (runE s 97 122 s.size i))
    · exact ⟨_, rfl⟩
    · exact ⟨⟨0, ⟨#[]⟩, 0, 0⟩, rfl⟩
  rw [two_if (by omega), if_neg c3]
  by_cases c4 : 48 ≤ s[i].toNat ∧ s[i].toNat ≤ 57
  · rw [if_pos (by omega), if_pos c4]
    rw [if_pos (by simp; omega)]
    have := impl_run s 48 57 hs K i (by omega) (by omega)
    rw [show impl_runOf.f K s i 48 57 = _ from this, Option.bind_some, gd_pos (by have := hr 48 57; omega)]
    simp only [Int.toNat_natCast]
    unfold impl_ReadDec.f
    rw [if_pos (by have := hex 48 57; omega), Option.bind_some]
    generalize readDec (s.extract i (runE s 48 57 s.size i)) = r
    obtain ⟨n, b⟩ := r
    cases b
    · exact ⟨_, rfl⟩
    · by_cases hn : n ≤ 65535
      · refine ⟨⟨0, ⟨#[]⟩, 0, 0⟩, ?_⟩
        simp [hn]
      · refine ⟨⟨4, s.extract i (runE s 48 57 s.size i), n, i⟩, ?_⟩
        simp [hn]
  rw [two_if (by omega), if_neg c4]
  exact ⟨_, rfl⟩
theorem impl_lex_l0 (s : ByteArray) (hs : s.size ≤ 4000) (K : Nat) (hK : 5000 < K) (d : Nat) : ∀ (k i : Nat) (out : List Tk), i ≤ s.size → out.length ≤ i → s.size - i ≤ d → d < k → impl_Lex.l0 s K k i out = some (lexE s d i out) := by
  induction d with
  | zero =>
    intro k i out h0 ho hi hk
    obtain ⟨k, rfl⟩ := succ_of hk
    rw [impl_Lex.l0, if_neg (by omega)]
    rfl
  | succ d ih =>
    intro k i out h0 ho hi hk
    obtain ⟨k, rfl⟩ := succ_of (show 0 < k by omega)
    rw [impl_Lex.l0, lexE]
    by_cases hl : i < s.size
    · have e : w64 ((i : Int) + 1) = ((i + 1 : Nat) : Int) := by rw [w64_of (by omega) (by omega)]; omega
      rw [if_pos (by omega), dif_pos hl, atS_nat s i hl, Option.bind_some]
      simp only [jn]
      by_cases c1 : s[i].toNat = 32
      · rw [if_pos (by omega), if_pos trivial, if_pos (.inl c1), e]
        exact ih k (i + 1) out (by omega) (by omega) (by omega) (by omega)
      rw [if_neg (by omega)]
      by_cases c2 : s[i].toNat = 10
      · rw [if_pos (by simp; omega), if_pos (.inr c2), e]
        exact ih k (i + 1) out (by omega) (by omega) (by omega) (by omega)
      rw [if_neg (by simp; omega), if_neg (show ¬ (s[i].toNat = 32 ∨ s[i].toNat = 10) by omega)]
      by_cases c3 : s[i].toNat = 35
      · rw [if_pos (by omega), if_pos c3, impl_skip, spec_skip_l1 s hs K s.size K i h0 (by omega) (by omega), Option.bind_some]
        have h1 := skipE_le s s.size i h0
        obtain ⟨n, hn⟩ : ∃ n, s.size = n + 1 := ⟨s.size - 1, by omega⟩
        have h2 : i + 1 ≤ skipE s s.size i := by
          rw [hn, skipE, dif_pos hl, if_neg c2]; exact skipE_ge s n (i + 1)
        exact ih k _ out h1 (by omega) (by omega) (by omega)
      rw [if_neg (by omega), if_neg c3]
      obtain ⟨t', ht⟩ := impl_token s hs i hl K hK
      rw [ht, Option.bind_some]
      cases hq : tokE s i s[i].toNat with
      | none => rfl
      | some t =>
        obtain ⟨q1, q2, q3⟩ := tokE_some hl hq
        simp only [Option.getD_some, Option.isSome_some, Bool.not_true, Bool.false_eq_true, if_false]
        rw [gd_pos (by omega)]
        have e2 : w64 ((i : Int) + (t.Text.size : Int)) = ((i + t.Text.size : Nat) : Int) := by rw [w64_of (by omega) (by omega)]; omega
        rw [e2]
        exact ih k _ _ (by omega) (by simp; omega) (by omega) (by omega)
    · rw [if_neg (by omega), dif_neg hl]
theorem spec_lex_l0 (s : ByteArray) (hs : s.size ≤ 4000) (K : Nat) (hK : 5000 < K) (d : Nat) : ∀ (k i : Nat) (out : List Tk), i ≤ s.size → out.length ≤ i → s.size - i ≤ d → d < k → spec_Lex.l0 s K k i out = some (lexE s d i out) := by
  induction d with
  | zero =>
    intro k i out h0 ho hi hk
    obtain ⟨k, rfl⟩ := succ_of hk
    rw [spec_Lex.l0, if_neg (by omega)]
    rfl
  | succ d ih =>
    intro k i out h0 ho hi hk
    obtain ⟨k, rfl⟩ := succ_of (show 0 < k by omega)
    rw [spec_Lex.l0, lexE]
    by_cases hl : i < s.size
    · have e : w64 ((i : Int) + 1) = ((i + 1 : Nat) : Int) := by rw [w64_of (by omega) (by omega)]; omega
      rw [if_pos (by omega), dif_pos hl, atS_nat s i hl, Option.bind_some]
      simp only [jn]
      by_cases c1 : s[i].toNat = 32
      · rw [if_pos (by omega), if_pos trivial, if_pos (.inl c1), e]
        exact ih k (i + 1) out (by omega) (by omega) (by omega) (by omega)
      rw [if_neg (by omega)]
      by_cases c2 : s[i].toNat = 10
      · rw [if_pos (by simp; omega), if_pos (.inr c2), e]
        exact ih k (i + 1) out (by omega) (by omega) (by omega) (by omega)
      rw [if_neg (by simp; omega), if_neg (show ¬ (s[i].toNat = 32 ∨ s[i].toNat = 10) by omega)]
      by_cases c3 : s[i].toNat = 35
      · rw [if_pos (by omega), if_pos c3, spec_skip_l1 s hs K s.size K i h0 (by omega) (by omega), Option.bind_some]
        have h1 := skipE_le s s.size i h0
        obtain ⟨n, hn⟩ : ∃ n, s.size = n + 1 := ⟨s.size - 1, by omega⟩
        have h2 : i + 1 ≤ skipE s s.size i := by
          rw [hn, skipE, dif_pos hl, if_neg c2]; exact skipE_ge s n (i + 1)
        exact ih k _ out h1 (by omega) (by omega) (by omega)
      rw [if_neg (by omega), if_neg c3]
      have hr : ∀ lo hi, runE s lo hi s.size i ≤ s.size ∧ i ≤ runE s lo hi s.size i := fun lo hi => ⟨runE_le s lo hi s.size i (by omega), runE_ge s lo hi s.size i⟩
      have hex : ∀ lo hi, (s.extract i (runE s lo hi s.size i)).size = runE s lo hi s.size i - i := fun lo hi => extract_size s lo hi i (by omega)
      have htok := fun t => @tokE_some s i t hl
      unfold tokE at htok ⊢
      by_cases c4 : s[i].toNat = 40
      · rw [if_pos (by omega), if_pos c4, gd_pos (by omega), e]
        exact ih k _ _ (by omega) (by simp; omega) (by omega) (by omega)
      rw [if_neg (by omega), if_neg c4]
      rw [if_neg c4] at htok
      by_cases c5 : s[i].toNat = 41
      · rw [if_pos (by omega), if_pos c5, gd_pos (by omega), e]
        exact ih k _ _ (by omega) (by simp; omega) (by omega) (by omega)
      rw [if_neg (by omega), if_neg c5]
      rw [if_neg c5] at htok
      rw [spec_letter, Option.bind_some]
      by_cases c6 : 97 ≤ s[i].toNat ∧ s[i].toNat ≤ 122
      · rw [if_pos c6] at htok
        rw [if_pos (by simpa using c6), if_pos c6]
        rw [spec_run s true 97 122 rfl hs K i h0 (by omega), Option.bind_some, gd_pos (by have := hr 97 122; omega)]
        simp only [Int.toNat_natCast]
        rw [spec_word _ (by have := hex 97 122; have := hr 97 122; omega) K (by have := hex 97 122; have := hr 97 122; omega), Option.bind_some]
        cases hw : wordB (s.extract i (runE s 97 122 s.size i))
        · rfl
        · rw [hw, if_pos rfl] at htok
          obtain ⟨q1, q2, q3⟩ := htok _ rfl
          simp only at q1 q2 q3
          have q4 := hex 97 122
          have q5 := hr 97 122
          simp only [Bool.not_true, Bool.false_eq_true, if_false, if_true]
          rw [gd_pos (by omega), gd_pos (by omega)]
          have e9 : i + (s.extract i (runE s 97 122 s.size i)).size = runE s 97 122 s.size i := by omega
          show _ = some (lexE s d (i + (s.extract i (runE s 97 122 s.size i)).size) (out ++ [⟨3, s.extract i (runE s 97 122 s.size i), 0, i⟩]))
          rw [e9]
          exact ih k _ _ (by omega) (by simp; omega) (by omega) (by omega)
      rw [if_neg (by simpa using c6), if_neg c6, spec_digit, Option.bind_some]
      rw [if_neg c6] at htok
      by_cases c7 : 48 ≤ s[i].toNat ∧ s[i].toNat ≤ 57
      · rw [if_pos c7] at htok
        rw [if_pos (by simpa using c7), if_pos c7]
        rw [spec_run s false 48 57 rfl hs K i h0 (by omega), Option.bind_some, gd_pos (by have := hr 48 57; omega)]
        simp only [Int.toNat_natCast]
        rw [read_dig s i hl c7 K (by omega), Option.bind_some]
        by_cases hq : (readDec (s.extract i (runE s 48 57 s.size i))).2 = true ∧ (readDec (s.extract i (runE s 48 57 s.size i))).1 ≤ 65535
        · rw [if_pos hq] at htok ⊢
          obtain ⟨q1, q2, q3⟩ := htok _ rfl
          simp only at q1 q2 q3
          have q4 := hex 48 57
          have q5 := hr 48 57
          rw [if_neg (by simp [hq.1]), if_neg (by simp; omega), gd_pos (by omega), gd_pos (by omega)]
          have e9 : i + (s.extract i (runE s 48 57 s.size i)).size = runE s 48 57 s.size i := by omega
          show _ = some (lexE s d (i + (s.extract i (runE s 48 57 s.size i)).size) (out ++ [⟨4, s.extract i (runE s 48 57 s.size i), (readDec (s.extract i (runE s 48 57 s.size i))).1, i⟩]))
          rw [e9]
          exact ih k _ _ (by omega) (by simp; omega) (by omega) (by omega)
        · rw [if_neg hq]
          cases hw : (readDec (s.extract i (runE s 48 57 s.size i))).2
          · simp
          · simp only [Bool.not_true, Bool.false_eq_true, if_false]
            rw [if_pos]
            rw [hw] at hq
            simp at hq ⊢
            omega
      rw [if_neg (by simpa using c7), if_neg c7]
    · rw [if_neg (by omega), dif_neg hl]
/-- What both answer. -/
def lexR (s : ByteArray) : List Tk × Int := if s.size > 4000 then ([], 4000) else match lexE s s.size 0 [] with
  | .inl r => r
  | .inr out => (out, -1)
theorem impl_lex (s : ByteArray) (K : Nat) (hK : 5000 < K) : impl_Lex.f K s = some (lexR s) := by
  unfold impl_Lex.f lexR
  by_cases h : s.size > 4000
  · rw [if_pos (by omega), if_pos h]
  · rw [if_neg (by omega), if_neg h]
    simp only [jn]
    rw [show impl_Lex.l0 s K K 0 [] = _ from impl_lex_l0 s (by omega) K hK s.size K 0 [] (by omega) (by simp) (by omega) (by omega)]
    cases lexE s s.size 0 [] <;> rfl
theorem spec_lex (s : ByteArray) (K : Nat) (hK : 5000 < K) : spec_Lex.f K s = some (lexR s) := by
  unfold spec_Lex.f lexR
  by_cases h : s.size > 4000
  · rw [if_pos (by omega), if_pos h]
  · rw [if_neg (by omega), if_neg h]
    simp only [jn]
    rw [show spec_Lex.l0 s K K 0 [] = _ from spec_lex_l0 s (by omega) K hK s.size K 0 [] (by omega) (by simp) (by omega) (by omega)]
    cases lexE s s.size 0 [] <;> rfl
theorem lexE_len (s : ByteArray) : ∀ (d i : Nat) (out r : List Tk), i ≤ s.size → out.length ≤ i → lexE s d i out = .inr r → r.length ≤ s.size
  | 0, i, out, r, h0, ho, e => by simp [lexE] at e; subst e; omega
  | d + 1, i, out, r, h0, ho, e => by
    rw [lexE] at e
    split at e
    · rename_i hl
      split at e
      · exact lexE_len s d (i + 1) out r (by omega) (by omega) e
      · split at e
        · exact lexE_len s d _ out r (skipE_le s s.size i h0) (by have := skipE_ge s s.size i; omega) e
        · split at e
          · rename_i t ht
            obtain ⟨q1, q2, q3⟩ := tokE_some hl ht
            exact lexE_len s d _ _ r (by omega) (by simp; omega) e
          · cases e
    · cases e; omega
theorem lexR_len (s : ByteArray) : (lexR s).1.length ≤ 4000 := by
  unfold lexR
  split
  · simp
  · rename_i h
    cases e : lexE s s.size 0 [] with
    | inl r =>
      have : ∀ (d i : Nat) (out : List Tk) (r : List Tk × Int), lexE s d i out = .inl r → r.1 = [] := by
        intro d
        induction d with
        | zero => intro i out r e; cases e
        | succ d ih =>
          intro i out r e
          rw [lexE] at e
          split at e
          · split at e
            · exact ih _ _ _ e
            · split at e
              · exact ih _ _ _ e
              · split at e
                · exact ih _ _ _ e
                · cases e; rfl
          · cases e
      simp [this _ _ _ _ e]
    | inr out => have := lexE_len s s.size 0 [] out (by omega) (by simp) e; simp only; omega
end Go.Proofs.YtfkanjgfjejgiaaDoorE
