/- What the program's and the reference's functions over facts come to, as functions on lists. -/
import Derived.Test.YtdjomoogldkpfaaPAllx11
import Derived.Test.YtdjomoogldkpfaaPAllx12
import Derived.Test.YtdjomoogldkpfaaPAllx13
import Derived.Test.YtdjomoogldkpfaaPAllx15
import Derived.Test.YtdjomoogldkpfaaPAllx16
import Derived.Test.YtdjomoogldkpfaaPAllx18
import Derived.Test.YtdjomoogldkpfaaPAllx19
import Derived.Test.YtdjomoogldkpfaaPAllx20
import Derived.Test.YtdjomoogldkpfaaUBase
namespace Go.Proofs.Ytdjomoogldkpfaa.UFacts
open Go.RowKit Go.Proofs.Ytdjomoogldkpfaa.PAll Go.Proofs.YtdjomoogldkpfaaW.PrintWords Go.Proofs.YtdjomoogldkpfaaW.PrintLast Go.Proofs.Ytdjomoogldkpfaa.UBase

/-! ### facts compared -/
def lessB (a b : S43) : Bool :=
  if a.f0 = b.f0 then if a.f1 = b.f1 then if a.f2 = b.f2 then if a.f3.f0 = b.f3.f0 then if a.f3.f1 = b.f3.f1 then decide (a.f3.f2 < b.f3.f2) else decide (a.f3.f1 < b.f3.f1) else decide (a.f3.f0 < b.f3.f0) else decide (a.f2 < b.f2) else decide (a.f1 < b.f1) else decide (a.f0 < b.f0)
def Less (a b : S43) : Prop :=
  a.f0 < b.f0 ∨ a.f0 = b.f0 ∧ (a.f1 < b.f1 ∨ a.f1 = b.f1 ∧ (a.f2 < b.f2 ∨ a.f2 = b.f2 ∧ (a.f3.f0 < b.f3.f0 ∨ a.f3.f0 = b.f3.f0 ∧ (a.f3.f1 < b.f3.f1 ∨ a.f3.f1 = b.f3.f1 ∧ a.f3.f2 < b.f3.f2))))
theorem less_iff (a b : S43) : lessB a b = true ↔ Less a b := by
  unfold lessB Less
  by_cases h0 : a.f0 = b.f0
  · by_cases h1 : a.f1 = b.f1
    · by_cases h2 : a.f2 = b.f2
      · by_cases h3 : a.f3.f0 = b.f3.f0
        · by_cases h4 : a.f3.f1 = b.f3.f1
          · simp [h0, h1, h2, h3, h4]
          · simp [h0, h1, h2, h3, h4]
        · simp [h0, h1, h2, h3]
      · simp [h0, h1, h2]
    · simp [h0, h1]
  · simp [h0]
theorem ext43 {a b : S43} (h0 : a.f0 = b.f0) (h1 : a.f1 = b.f1) (h2 : a.f2 = b.f2) (h3 : a.f3.f0 = b.f3.f0) (h4 : a.f3.f1 = b.f3.f1) (h5 : a.f3.f2 = b.f3.f2) : a = b := by
  obtain ⟨a0, a1, a2, a3, a4, a5⟩ := a
  obtain ⟨b0, b1, b2, b3, b4, b5⟩ := b
  simp_all
theorem less_irrefl (a : S43) : ¬ Less a a := by
  unfold Less
  omega
theorem less_trans {a b c : S43} (h : Less a b) (k : Less b c) : Less a c := by
  unfold Less at *
  omega
theorem less_total (a b : S43) : Less a b ∨ a = b ∨ Less b a := by
  by_cases h : Less a b
  · exact .inl h
  · by_cases h' : Less b a
    · exact .inr (.inr h')
    · refine .inr (.inl (ext43 ?_ ?_ ?_ ?_ ?_ ?_)) <;> (unfold Less at *; omega)
theorem spec_less (a b : S43) : spec_FactLess.f a.f0 a.f1 a.f2 a.f3.f0 a.f3.f1 a.f3.f2 b.f0 b.f1 b.f2 b.f3.f0 b.f3.f1 b.f3.f2 = some (lessB a b) := by
  unfold spec_FactLess.f lessB
  by_cases h0 : a.f0 = b.f0
  · by_cases h1 : a.f1 = b.f1
    · by_cases h2 : a.f2 = b.f2
      · by_cases h3 : a.f3.f0 = b.f3.f0
        · by_cases h4 : a.f3.f1 = b.f3.f1
          · simp [h0, h1, h2, h3, h4]
          · simp [h0, h1, h2, h3, h4]
        · simp [h0, h1, h2, h3]
      · simp [h0, h1, h2]
    · simp [h0, h1]
  · simp [h0]
/-- The first number that is not 0. -/
def fnz : List Int → Int
  | [] => 0
  | x :: xs => if x = 0 then fnz xs else x
theorem or_some (xs : List Int) (hn : xs.length ≤ 1000) (d : Nat) : ∀ (k i : Nat), i + d = xs.length → d < k → cmp_Or_int.l0 k 0 xs (xs.length : Int) i = some (fnz (xs.drop i)) := by
  induction d with
  | zero =>
    intro k i hi hk
    obtain ⟨k, rfl⟩ := succ_of hk
    simp only [cmp_Or_int.l0]
    rw [if_neg (by omega), List.drop_eq_nil_of_le (by omega)]
    rfl
  | succ d ih =>
    intro k i hi hk
    obtain ⟨k, rfl⟩ := succ_of hk
    have hlt : i < xs.length := by omega
    simp only [cmp_Or_int.l0]
    rw [if_pos (by omega), if_pos (by omega), if_pos (by omega), w64 (by omega) (by omega), List.drop_eq_getElem_cons hlt]
    have e : rd xs (i : Int) = xs[i] := by simp [rd, List.getD, hlt]
    rw [e]
    unfold fnz
    by_cases h : xs[i] = 0
    · rw [if_pos h, if_pos h]
      exact ih k (i + 1) (by omega) (by omega)
    · rw [if_neg h, if_neg h]
def sgn (a b : Int) : Int := if a < b then -1 else if b < a then 1 else 0
theorem cmp_some (a b : Int) : cmp_Compare_int.f a b = some (sgn a b) := by
  unfold cmp_Compare_int.f cmp_isNaN_int.f sgn
  by_cases h : a < b
  · simp [h]
  · by_cases h' : b < a
    · simp [h, h']
    · simp [h, h']
theorem sgn_eq {a b : Int} (h : a = b) : sgn a b = 0 := by
  unfold sgn
  rw [if_neg (by omega), if_neg (by omega)]
theorem sgn_ne {a b : Int} (h : a ≠ b) : sgn a b ≠ 0 ∧ decide (sgn a b < 0) = decide (a < b) := by
  unfold sgn
  by_cases h' : a < b
  · simp [h']
  · have : b < a := by omega
    simp [h', this]
theorem impl_less (k : Nat) (hk : 7 ≤ k) (a b : S43) : impl_FactLess.f k a.f0 a.f1 a.f2 a.f3.f0 a.f3.f1 a.f3.f2 b.f0 b.f1 b.f2 b.f3.f0 b.f3.f1 b.f3.f2 = some (lessB a b) := by
  unfold impl_FactLess.f impl_order.f
  simp only [cmp_some, Option.bind_some]
  have h := or_some [sgn a.f0 b.f0, sgn a.f1 b.f1, sgn a.f2 b.f2, sgn a.f3.f0 b.f3.f0, sgn a.f3.f1 b.f3.f1, sgn a.f3.f2 b.f3.f2] (by simp) 6 k 0 (by simp) (by omega)
  unfold cmp_Or_int.f
  have h' : cmp_Or_int.l0 k 0 [sgn a.f0 b.f0, sgn a.f1 b.f1, sgn a.f2 b.f2, sgn a.f3.f0 b.f3.f0, sgn a.f3.f1 b.f3.f1, sgn a.f3.f2 b.f3.f2] (([sgn a.f0 b.f0, sgn a.f1 b.f1, sgn a.f2 b.f2, sgn a.f3.f0 b.f3.f0, sgn a.f3.f1 b.f3.f1, sgn a.f3.f2 b.f3.f2].length : Nat) : Int) 0 = _ := h
  rw [h']
  simp only [Option.bind_some, List.drop_zero, Option.some.injEq, fnz]
  unfold lessB
  by_cases h0 : a.f0 = b.f0
  · rw [if_pos (sgn_eq h0), if_pos h0]
    by_cases h1 : a.f1 = b.f1
    · rw [if_pos (sgn_eq h1), if_pos h1]
      by_cases h2 : a.f2 = b.f2
      · rw [if_pos (sgn_eq h2), if_pos h2]
        by_cases h3 : a.f3.f0 = b.f3.f0
        · rw [if_pos (sgn_eq h3), if_pos h3]
          by_cases h4 : a.f3.f1 = b.f3.f1
          · rw [if_pos (sgn_eq h4), if_pos h4]
            by_cases h5 : a.f3.f2 = b.f3.f2
            · rw [if_pos (sgn_eq h5)]
              simp [h5]
            · rw [if_neg (sgn_ne h5).1]
              exact (sgn_ne h5).2
          · rw [if_neg (sgn_ne h4).1, if_neg h4]
            exact (sgn_ne h4).2
        · rw [if_neg (sgn_ne h3).1, if_neg h3]
          exact (sgn_ne h3).2
      · rw [if_neg (sgn_ne h2).1, if_neg h2]
        exact (sgn_ne h2).2
    · rw [if_neg (sgn_ne h1).1, if_neg h1]
      exact (sgn_ne h1).2
  · rw [if_neg (sgn_ne h0).1, if_neg h0]
    exact (sgn_ne h0).2

/-! ### facts made out of the law's own -/
def to41 (x : S37) : S41 := ⟨x.f0, x.f1, x.f2⟩
def to43 (x : S39) : S43 := ⟨x.f0, x.f1, x.f2, to41 x.f3⟩
theorem to_fact (a b c d e f : Int) : laws_toFact.f a b c d e f = some (a, b, c, d, e, f) := rfl
theorem sz_some (l : List S39) (n : Int) (hl : l.length ≤ 9223372036854775807) (h0 : 0 ≤ n) (h1 : n ≤ 1048576) : laws_szFactS.f l n = some (if n < l.length then -1 else n - l.length) := by
  unfold laws_szFactS.f
  rw [w64 (by omega) (by omega)]
  by_cases h : n < (l.length : Int)
  · rw [if_pos (by omega), if_pos h]
  · rw [if_neg (by omega), if_neg h]
theorem toFactS_l0 (x0 : List S39) (hn : x0.length ≤ 1048576) (d : Nat) : ∀ (k i : Nat) (x3 : List S43), i + d = x0.length → d < k → x3.length = x0.length → (∀ j, j < i → x3.getD j z43 = to43 (x0.getD j z39)) →
    laws_toFactS.l0 k x0 x3 i = some (x0.map to43) := by
  induction d with
  | zero =>
    intro k i x3 hi hk hl h
    obtain ⟨k, rfl⟩ := succ_of hk
    simp only [laws_toFactS.l0]
    rw [if_neg (by omega)]
    refine congrArg some (ext_getD z43 (by simpa using hl) fun j hj => ?_)
    rw [h j (by omega)]
    simp [List.getD, show j < x0.length by omega]
  | succ d ih =>
    intro k i x3 hi hk hl h
    obtain ⟨k, rfl⟩ := succ_of hk
    simp only [laws_toFactS.l0]
    rw [if_pos (by omega), if_pos (by omega), to_fact]
    simp only [Option.bind_some]
    rw [if_pos (by omega), w64 (by omega) (by omega)]
    refine ih k (i + 1) _ (by omega) (by omega) (by simpa using hl) fun j hj => ?_
    have e : ((i : Nat) : Int).toNat = i := by omega
    rw [e]
    by_cases hji : j = i
    · subst hji
      rw [set_getD_eq _ _ _ _ (by omega)]
      simp only [rd_T39, e]
      rfl
    · rw [set_getD_ne _ _ _ _ _ (by omega)]
      exact h j (by omega)
theorem toFactS (l : List S39) (hn : l.length ≤ 1048576) (k : Nat) (hk : l.length < k) : laws_toFactS.f k l = some (l.map to43) := by
  unfold laws_toFactS.f
  rw [if_pos (by omega), if_pos (by omega)]
  exact toFactS_l0 l hn l.length k 0 _ (by omega) hk (by simp) (fun j hj => by omega)

/-! ### facts held against each other -/
theorem eqFact_refl (a : S43) : laws_eqFact.f a.f0 a.f1 a.f2 a.f3.f0 a.f3.f1 a.f3.f2 a.f0 a.f1 a.f2 a.f3.f0 a.f3.f1 a.f3.f2 = some true := by
  simp [laws_eqFact.f, laws_eqAbs.f]
theorem eqFactS_l0 (x : List S43) (hn : x.length ≤ 4000000) (d : Nat) : ∀ (k i : Nat), i + d = x.length → d < k → laws_eqFactS.l0 k x x i = some true := by
  induction d with
  | zero =>
    intro k i hi hk
    obtain ⟨k, rfl⟩ := succ_of hk
    simp only [laws_eqFactS.l0]
    rw [if_neg (by omega)]
  | succ d ih =>
    intro k i hi hk
    obtain ⟨k, rfl⟩ := succ_of hk
    simp only [laws_eqFactS.l0]
    rw [if_pos (by omega), if_pos (by omega), if_pos (by omega), eqFact_refl]
    simp only [Option.bind_some, if_true]
    rw [w64 (by omega) (by omega)]
    exact ih k (i + 1) (by omega) (by omega)
theorem eqFactS (x : List S43) (hn : x.length ≤ 4000000) (k : Nat) (hk : x.length < k) : laws_eqFactS.f k x x = some true := by
  unfold laws_eqFactS.f
  rw [if_pos rfl]
  exact eqFactS_l0 x hn x.length k 0 (by omega) hk

/-! ### are they right? -/
def upB (x : List S43) (i : Nat) : Bool := lessB (x.getD (i - 1) z43) (x.getD i z43)
/-- From i on each is less than the one behind it. -/
def okFrom (x : List S43) : Nat → Nat → Bool
  | 0, _ => decide ((x.length : Int) ≤ 2500)
  | d + 1, i => if upB x i = true then okFrom x d (i + 1) else false
theorem specOk_l0 (x : List S43) (hn : x.length ≤ 4000000) (d : Nat) : ∀ (k i : Nat), 1 ≤ i → i + d = x.length ∨ (d = 0 ∧ x.length ≤ i) → d < k → i ≤ 4000001 → spec_FactsOk.l0 k x i = some (okFrom x d i) := by
  induction d with
  | zero =>
    intro k i h1 hi hk hb
    obtain ⟨k, rfl⟩ := succ_of hk
    simp only [spec_FactsOk.l0]
    rw [if_neg (by omega)]
    rfl
  | succ d ih =>
    intro k i h1 hi hk hb
    obtain ⟨k, rfl⟩ := succ_of hk
    simp only [spec_FactsOk.l0]
    rw [if_pos (by omega), w64 (by omega) (by omega), if_pos (by omega), if_pos (by omega), if_pos (by omega), spec_less]
    simp only [Option.bind_some]
    have e : lessB (rd_T43 x (↑i - 1)) (rd_T43 x ↑i) = upB x i := by
      unfold upB rd_T43
      rw [show ((i : Int) - 1).toNat = i - 1 by omega, show (i : Int).toNat = i by omega]
    rw [e, w64 (by omega) (by omega)]
    unfold okFrom
    by_cases h : upB x i = true
    · rw [if_pos h, if_pos h]
      exact ih k (i + 1) (by omega) (by omega) (by omega) (by omega)
    · rw [if_neg h, if_neg h]
theorem implOk_l0 (x : List S43) (hn : x.length ≤ 4000000) (d : Nat) : ∀ (k i : Nat), 1 ≤ i → i + d = x.length ∨ (d = 0 ∧ x.length ≤ i) → d + 8 < k → i ≤ 4000001 → impl_FactsOk.l0 k x i = some (okFrom x d i) := by
  induction d with
  | zero =>
    intro k i h1 hi hk hb
    obtain ⟨k, rfl⟩ := succ_of (show 0 < k by omega)
    simp only [impl_FactsOk.l0]
    rw [if_neg (by omega)]
    rfl
  | succ d ih =>
    intro k i h1 hi hk hb
    obtain ⟨k, rfl⟩ := succ_of (show 0 < k by omega)
    simp only [impl_FactsOk.l0]
    rw [if_pos (by omega), w64 (by omega) (by omega), if_pos (by omega), if_pos (by omega), if_pos (by omega), impl_less _ (by omega)]
    simp only [Option.bind_some]
    have e : lessB (rd_T43 x (↑i - 1)) (rd_T43 x ↑i) = upB x i := by
      unfold upB rd_T43
      rw [show ((i : Int) - 1).toNat = i - 1 by omega, show (i : Int).toNat = i by omega]
    rw [e, w64 (by omega) (by omega)]
    unfold okFrom
    by_cases h : upB x i = true
    · rw [if_pos h, if_pos h]
      exact ih k (i + 1) (by omega) (by omega) (by omega) (by omega)
    · rw [if_neg h, if_neg h]
/-- Are the facts right? -/
def okB (x : List S43) : Bool := okFrom x (x.length - 1) 1
theorem specOk (x : List S43) (hn : x.length ≤ 4000000) (k : Nat) (hk : x.length < k) : spec_FactsOk.f k x = some (okB x) := by
  unfold spec_FactsOk.f okB
  exact specOk_l0 x hn _ k 1 (by omega) (by omega) (by omega) (by omega)
theorem implOk (x : List S43) (hn : x.length ≤ 4000000) (k : Nat) (hk : x.length + 8 < k) : impl_FactsOk.f k x = some (okB x) := by
  unfold impl_FactsOk.f okB
  exact implOk_l0 x hn _ k 1 (by omega) (by omega) (by omega) (by omega)
theorem ok_len {x : List S43} (h : okB x = true) : x.length ≤ 2500 := by
  have key : ∀ d i, okFrom x d i = true → x.length ≤ 2500 := by
    intro d
    induction d with
    | zero =>
      intro i h
      simp [okFrom] at h
      omega
    | succ d ih =>
      intro i h
      unfold okFrom at h
      split at h
      · exact ih _ h
      · cases h
  exact key _ _ h
theorem ok_up {x : List S43} (h : okB x = true) : ∀ i, 1 ≤ i → i < x.length → Less (x.getD (i - 1) z43) (x.getD i z43) := by
  have key : ∀ d i, okFrom x d i = true → i + d = x.length → ∀ j, i ≤ j → j < x.length → Less (x.getD (j - 1) z43) (x.getD j z43) := by
    intro d
    induction d with
    | zero =>
      intro i _ hi j h1 h2
      omega
    | succ d ih =>
      intro i h hi j h1 h2
      unfold okFrom at h
      by_cases hu : upB x i = true
      · rw [if_pos hu] at h
        by_cases hij : i = j
        · subst hij
          exact (less_iff _ _).1 hu
        · exact ih (i + 1) h (by omega) j (by omega) h2
      · rw [if_neg hu] at h
        cases h
  intro i h1 h2
  exact key _ _ h (by omega) i h1 h2
theorem ok_mono {x : List S43} (h : okB x = true) (i : Nat) : ∀ d, i + d + 1 < x.length + 0 → Less (x.getD i z43) (x.getD (i + d + 1) z43) := by
  intro d
  induction d with
  | zero =>
    intro hd
    exact ok_up h (i + 1) (by omega) (by omega)
  | succ d ih =>
    intro hd
    exact less_trans (ih (by omega)) (ok_up h (i + (d + 1) + 1) (by omega) (by omega))
theorem ok_lt {x : List S43} (h : okB x = true) {i j : Nat} (hij : i < j) (hj : j < x.length) : Less (x.getD i z43) (x.getD j z43) := by
  have := ok_mono h i (j - i - 1) (by omega)
  rwa [show i + (j - i - 1) + 1 = j by omega] at this

/-! ### the place -/
/-- Binary search. -/
def placeB (x : List S43) (f : S43) : Nat → Nat → Nat → Nat
  | 0, lo, _ => lo
  | d + 1, lo, hi => if lo < hi then (if lessB (x.getD ((lo + hi) / 2) z43) f = true then placeB x f d ((lo + hi) / 2 + 1) hi else placeB x f d lo ((lo + hi) / 2)) else lo
theorem specPlace_l0 (x : List S43) (f : S43) (hn : x.length ≤ 4000000) (d : Nat) : ∀ (k lo hi : Nat), hi ≤ lo + d → hi ≤ x.length → lo ≤ 4000001 → d < k → spec_l15Place.l0 k x lo hi f.f0 f.f1 f.f2 f.f3.f0 f.f3.f1 f.f3.f2 = some (placeB x f d lo hi : Int) := by
  induction d with
  | zero =>
    intro k lo hi h hh hb hk
    obtain ⟨k, rfl⟩ := succ_of hk
    simp only [spec_l15Place.l0, placeB]
    rw [if_neg (by omega)]
  | succ d ih =>
    intro k lo hi h hh hb hk
    obtain ⟨k, rfl⟩ := succ_of hk
    simp only [spec_l15Place.l0, placeB]
    by_cases hlt : lo < hi
    · have em : wrap64 (Int.tdiv (wrap64 ((lo : Int) + (hi : Int))) 2) = (((lo + hi) / 2 : Nat) : Int) := by
        rw [w64 (x := (lo : Int) + hi) (by omega) (by omega), Int.tdiv_eq_ediv_of_nonneg (by omega), w64 (by omega) (by omega)]
        omega
      rw [em, if_pos (by omega), if_pos (by omega), if_pos (by omega), if_pos hlt, spec_less]
      simp only [Option.bind_some]
      have e : rd_T43 x (((lo + hi) / 2 : Nat) : Int) = x.getD ((lo + hi) / 2) z43 := by
        unfold rd_T43
        rw [Int.toNat_natCast]
      rw [e]
      by_cases hl : lessB (x.getD ((lo + hi) / 2) z43) f = true
      · rw [if_pos hl, if_pos hl, w64 (by omega) (by omega)]
        exact ih k ((lo + hi) / 2 + 1) hi (by omega) hh (by omega) (by omega)
      · rw [if_neg hl, if_neg hl]
        exact ih k lo ((lo + hi) / 2) (by omega) (by omega) (by omega) (by omega)
    · rw [if_neg (by omega), if_neg hlt]
theorem implPlace_l0 (x : List S43) (f : S43) (hn : x.length ≤ 4000000) (d : Nat) : ∀ (k lo hi : Nat), hi ≤ lo + d → hi ≤ x.length → lo ≤ 4000001 → d + 8 < k → impl_factAt.l0 k x lo hi f.f0 f.f1 f.f2 f.f3.f0 f.f3.f1 f.f3.f2 = some (placeB x f d lo hi : Int) := by
  induction d with
  | zero =>
    intro k lo hi h hh hb hk
    obtain ⟨k, rfl⟩ := succ_of (show 0 < k by omega)
    simp only [impl_factAt.l0, placeB]
    rw [if_neg (by omega)]
  | succ d ih =>
    intro k lo hi h hh hb hk
    obtain ⟨k, rfl⟩ := succ_of (show 0 < k by omega)
    simp only [impl_factAt.l0, placeB]
    by_cases hlt : lo < hi
    · have em : wrap64 (Int.tdiv (wrap64 ((lo : Int) + (hi : Int))) 2) = (((lo + hi) / 2 : Nat) : Int) := by
        rw [w64 (x := (lo : Int) + hi) (by omega) (by omega), Int.tdiv_eq_ediv_of_nonneg (by omega), w64 (by omega) (by omega)]
        omega
      rw [em, if_pos (by omega), if_pos (by omega), if_pos (by omega), if_pos hlt, impl_less _ (by omega)]
      simp only [Option.bind_some]
      have e : rd_T43 x (((lo + hi) / 2 : Nat) : Int) = x.getD ((lo + hi) / 2) z43 := by
        unfold rd_T43
        rw [Int.toNat_natCast]
      rw [e]
      by_cases hl : lessB (x.getD ((lo + hi) / 2) z43) f = true
      · rw [if_pos hl, if_pos hl, w64 (by omega) (by omega)]
        exact ih k ((lo + hi) / 2 + 1) hi (by omega) hh (by omega) (by omega)
      · rw [if_neg hl, if_neg hl]
        exact ih k lo ((lo + hi) / 2) (by omega) (by omega) (by omega) (by omega)
    · rw [if_neg (by omega), if_neg hlt]
/-- The place of a fact. -/
def place (x : List S43) (f : S43) : Nat := placeB x f x.length 0 x.length
theorem specPlace (x : List S43) (f : S43) (hn : x.length ≤ 4000000) (k : Nat) (hk : x.length < k) : spec_l15Place.f k x f.f0 f.f1 f.f2 f.f3.f0 f.f3.f1 f.f3.f2 = some (place x f : Int) := by
  unfold spec_l15Place.f place
  exact specPlace_l0 x f hn _ k 0 _ (by omega) (by omega) (by omega) hk
theorem implPlace (x : List S43) (f : S43) (hn : x.length ≤ 4000000) (k : Nat) (hk : x.length + 8 < k) : impl_factAt.f k x f.f0 f.f1 f.f2 f.f3.f0 f.f3.f1 f.f3.f2 = some (place x f : Int) := by
  unfold impl_factAt.f place
  exact implPlace_l0 x f hn _ k 0 _ (by omega) (by omega) (by omega) hk

/-! ### is it there? -/
def eqB (a f : S43) : Bool := a.f0 == f.f0 && (a.f1 == f.f1 && (a.f2 == f.f2 && ((a.f3.f0 == f.f3.f0 && (a.f3.f1 == f.f3.f1 && (a.f3.f2 == f.f3.f2))))))
def hasB (x : List S43) (f : S43) : Bool := if place x f < x.length then eqB (x.getD (place x f) z43) f else false
theorem specHas (x : List S43) (f : S43) (hn : x.length ≤ 4000000) (k : Nat) (hk : x.length < k) : spec_FactHas.f k x f.f0 f.f1 f.f2 f.f3.f0 f.f3.f1 f.f3.f2 = some (okB x && hasB x f) := by
  unfold spec_FactHas.f hasB
  rw [specOk x hn k hk]
  simp only [Option.bind_some]
  by_cases h : okB x = true
  · rw [if_pos h, specPlace x f hn k hk]
    simp only [Option.bind_some]
    by_cases h' : place x f < x.length
    · rw [if_pos (by omega), if_pos (by omega), if_pos h', h]
      simp only [rd_T43, Int.toNat_natCast, Bool.true_and]
      rfl
    · rw [if_neg (by omega), if_neg h']
      simp
  · rw [if_neg h]
    simp [h]
theorem implHas_ (x : List S43) (f : S43) (hn : x.length ≤ 4000000) (k : Nat) (hk : x.length + 8 < k) : impl_has.f k x f.f0 f.f1 f.f2 f.f3.f0 f.f3.f1 f.f3.f2 = some (hasB x f) := by
  unfold impl_has.f hasB
  rw [implPlace x f hn k hk]
  simp only [Option.bind_some]
  by_cases h' : place x f < x.length
  · rw [if_pos (by omega), if_pos (by omega), if_pos h']
    simp only [rd_T43, Int.toNat_natCast]
    rfl
  · rw [if_neg (by omega), if_neg h']
theorem implHas (x : List S43) (f : S43) (hn : x.length ≤ 4000000) (k : Nat) (hk : x.length + 8 < k) : impl_FactHas.f k x f.f0 f.f1 f.f2 f.f3.f0 f.f3.f1 f.f3.f2 = some (okB x && hasB x f) := by
  unfold impl_FactHas.f
  rw [implOk x hn k hk]
  simp only [Option.bind_some]
  by_cases h : okB x = true
  · rw [if_pos h, implHas_ x f hn k hk, h]
    rfl
  · rw [if_neg h]
    simp [h]
end Go.Proofs.Ytdjomoogldkpfaa.UFacts
