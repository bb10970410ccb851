/- The law FnFacts without memory: what its functions come to, and that it answers true for all values of its parameters. -/
import Derived.Test.YtdjomoogldkpfaaVag0
import Derived.Test.YtdjomoogldkpfaaQg5
import Derived.Test.YtdjomoogldkpfaaQg0
import Derived.Test.YtdjomoogldkpfaaQg1
import Derived.Test.YtdjomoogldkpfaaQg3
import Derived.Test.YtdjomoogldkpfaaQg2
import Derived.Test.YtdjomoogldkpfaaQg4
section
namespace Go.Proofs.Ytdjomoogldkpfaa.UBase
open Go.RowKit Go.Proofs.YtdjomoogldkpfaaW.PrintWords
theorem w64 {x : Int} (h0 : -9223372036854775808 ≤ x) (h1 : x ≤ 9223372036854775807) : wrap64 x = x := by
  unfold wrap64
  omega
theorem w64_id (x : Int) : wrap64 x = x ∨ x < -9223372036854775808 ∨ 9223372036854775807 < x := by
  by_cases h0 : -9223372036854775808 ≤ x
  · by_cases h1 : x ≤ 9223372036854775807
    · exact .inl (w64 h0 h1)
    · exact .inr (.inr (by omega))
  · exact .inr (.inl (by omega))
theorem wf_bounds {x : Int} (h : (Lit.int .i64 x).wf = true) : -9223372036854775808 ≤ x ∧ x ≤ 9223372036854775807 := by
  simp [Lit.wf] at h
  exact ⟨h.1, h.2⟩
theorem succ_of {k n : Nat} (h : n < k) : ∃ m, k = m + 1 := ⟨k - 1, by omega⟩
def At {α : Type} (g : Nat → Option α) (K : Nat) (r : α) : Prop := ∀ k, K ≤ k → g k = some r
theorem set_getD_eq {α : Type} (l : List α) (i : Nat) (a d : α) (h : i < l.length) : (l.set i a).getD i d = a := by
  simp [List.getD, h]
theorem set_getD_ne {α : Type} (l : List α) (i j : Nat) (a d : α) (h : i ≠ j) : (l.set i a).getD j d = l.getD j d := by
  simp [List.getD, h]
theorem ext_getD {α : Type} {l m : List α} (d : α) (hl : l.length = m.length) (h : ∀ i, i < l.length → l.getD i d = m.getD i d) : l = m := by
  apply List.ext_getElem hl
  intro i h1 h2
  have := h i h1
  simpa [List.getD, List.getElem?_eq_getElem h1, List.getElem?_eq_getElem h2] using this
end Go.Proofs.Ytdjomoogldkpfaa.UBase
end
section
namespace Go.Proofs.Ytdjomoogldkpfaa.UFacts
open Go.RowKit Go.Proofs.Ytdjomoogldkpfaa.PAll Go.Proofs.YtdjomoogldkpfaaW.PrintWords Go.Proofs.YtdjomoogldkpfaaW.PrintLast Go.Proofs.Ytdjomoogldkpfaa.UBase
def lessB (a b : S43) : Bool :=
  if a.f0 = b.f0 then if a.f1 = b.f1 then if a.f2 = b.f2 then if a.f3.f0 = b.f3.f0 then if a.f3.f1 = b.f3.f1 then decide (a.f3.f2 < b.f3.f2) else decide (a.f3.f1 < b.f3.f1) else decide (a.f3.f0 < b.f3.f0) else decide (a.f2 < b.f2) else decide (a.f1 < b.f1) else decide (a.f0 < b.f0)
def Less (a b : S43) : Prop :=
  a.f0 < b.f0 ∨ a.f0 = b.f0 ∧ (a.f1 < b.f1 ∨ a.f1 = b.f1 ∧ (a.f2 < b.f2 ∨ a.f2 = b.f2 ∧ (a.f3.f0 < b.f3.f0 ∨ a.f3.f0 = b.f3.f0 ∧ (a.f3.f1 < b.f3.f1 ∨ a.f3.f1 = b.f3.f1 ∧ a.f3.f2 < b.f3.f2))))
theorem less_iff (a b : S43) : lessB a b = true ↔ Less a b := by
  unfold lessB Less
  by_cases h0 : a.f0 = b.f0
  · by_cases h1 : a.f1 = b.f1
    · by_cases h2 : a.f2 = b.f2
      · by_cases h3 : a.f3.f0 = b.f3.f0
        · by_cases h4 : a.f3.f1 = b.f3.f1
          · simp [h0, h1, h2, h3, h4]
          · simp [h0, h1, h2, h3, h4]
        · simp [h0, h1, h2, h3]
      · simp [h0, h1, h2]
    · simp [h0, h1]
  · simp [h0]
theorem ext43 {a b : S43} (h0 : a.f0 = b.f0) (h1 : a.f1 = b.f1) (h2 : a.f2 = b.f2) (h3 : a.f3.f0 = b.f3.f0) (h4 : a.f3.f1 = b.f3.f1) (h5 : a.f3.f2 = b.f3.f2) : a = b := by
  obtain ⟨a0, a1, a2, a3, a4, a5⟩ := a
  obtain ⟨b0, b1, b2, b3, b4, b5⟩ := b
  simp_all
theorem less_irrefl (a : S43) : ¬ Less a a := by
  unfold Less
  omega
theorem less_trans {a b c : S43} (h : Less a b) (k : Less b c) : Less a c := by
  unfold Less at *
  omega
theorem less_total (a b : S43) : Less a b ∨ a = b ∨ Less b a := by
  by_cases h : Less a b
  · exact .inl h
  · by_cases h' : Less b a
    · exact .inr (.inr h')
    · refine .inr (.inl (ext43 ?_ ?_ ?_ ?_ ?_ ?_)) <;> (unfold Less at *; omega)
theorem spec_less (a b : S43) : spec_FactLess.f a.f0 a.f1 a.f2 a.f3.f0 a.f3.f1 a.f3.f2 b.f0 b.f1 b.f2 b.f3.f0 b.f3.f1 b.f3.f2 = some (lessB a b) := by
  unfold spec_FactLess.f lessB
  by_cases h0 : a.f0 = b.f0
  · by_cases h1 : a.f1 = b.f1
    · by_cases h2 : a.f2 = b.f2
      · by_cases h3 : a.f3.f0 = b.f3.f0
        · by_cases h4 : a.f3.f1 = b.f3.f1
          · simp [h0, h1, h2, h3, h4]
          · simp [h0, h1, h2, h3, h4]
        · simp [h0, h1, h2, h3]
      · simp [h0, h1, h2]
    · simp [h0, h1]
  · simp [h0]
def fnz : List Int → Int
  | [] => 0
  | x :: xs => if x = 0 then fnz xs else x
theorem or_some (xs : List Int) (hn : xs.length ≤ 1000) (d : Nat) : ∀ (k i : Nat), i + d = xs.length → d < k → cmp_Or_int.l0 k 0 xs (xs.length : Int) i = some (fnz (xs.drop i)) := by
  induction d with
  | zero =>
    intro k i hi hk
    obtain ⟨k, rfl⟩ := succ_of hk
    simp only [cmp_Or_int.l0]
    rw [if_neg (by omega), List.drop_eq_nil_of_le (by omega)]
    rfl
  | succ d ih =>
    intro k i hi hk
    obtain ⟨k, rfl⟩ := succ_of hk
    have hlt : i < xs.length := by omega
    simp only [cmp_Or_int.l0]
    rw [if_pos (by omega), if_pos (by omega), if_pos (by omega), w64 (by omega) (by omega), List.drop_eq_getElem_cons hlt]
    have e : rd xs (i : Int) = xs[i] := by simp [rd, List.getD, hlt]
    rw [e]
    unfold fnz
    by_cases h : xs[i] = 0
    · rw [if_pos h, if_pos h]
      exact ih k (i + 1) (by omega) (by omega)
    · rw [if_neg h, if_neg h]
def sgn (a b : Int) : Int := if a < b then -1 else if b < a then 1 else 0
theorem cmp_some (a b : Int) : cmp_Compare_int.f a b = some (sgn a b) := by
  unfold cmp_Compare_int.f cmp_isNaN_int.f sgn
  by_cases h : a < b
  · simp [h]
  · by_cases h' : b < a
    · simp [h, h']
    · simp [h, h']
theorem sgn_eq {a b : Int} (h : a = b) : sgn a b = 0 := by
  unfold sgn
  rw [if_neg (by omega), if_neg (by omega)]
theorem sgn_ne {a b : Int} (h : a ≠ b) : sgn a b ≠ 0 ∧ decide (sgn a b < 0) = decide (a < b) := by
  unfold sgn
  by_cases h' : a < b
  · simp [h']
  · have : b < a := by omega
    simp [h', this]
theorem impl_less (k : Nat) (hk : 7 ≤ k) (a b : S43) : impl_FactLess.f k a.f0 a.f1 a.f2 a.f3.f0 a.f3.f1 a.f3.f2 b.f0 b.f1 b.f2 b.f3.f0 b.f3.f1 b.f3.f2 = some (lessB a b) := by
  unfold impl_FactLess.f impl_order.f
  simp only [cmp_some, Option.bind_some]
  have h := or_some [sgn a.f0 b.f0, sgn a.f1 b.f1, sgn a.f2 b.f2, sgn a.f3.f0 b.f3.f0, sgn a.f3.f1 b.f3.f1, sgn a.f3.f2 b.f3.f2] (by simp) 6 k 0 (by simp) (by omega)
  unfold cmp_Or_int.f
  have h' : cmp_Or_int.l0 k 0 [sgn a.f0 b.f0, sgn a.f1 b.f1, sgn a.f2 b.f2, sgn a.f3.f0 b.f3.f0, sgn a.f3.f1 b.f3.f1, sgn a.f3.f2 b.f3.f2] (([sgn a.f0 b.f0, sgn a.f1 b.f1, sgn a.f2 b.f2, sgn a.f3.f0 b.f3.f0, sgn a.f3.f1 b.f3.f1, sgn a.f3.f2 b.f3.f2].length : Nat) : Int) 0 = _ := h
  rw [h']
  simp only [Option.bind_some, List.drop_zero, Option.some.injEq, fnz]
  unfold lessB
  by_cases h0 : a.f0 = b.f0
  · rw [if_pos (sgn_eq h0), if_pos h0]
    by_cases h1 : a.f1 = b.f1
    · rw [if_pos (sgn_eq h1), if_pos h1]
      by_cases h2 : a.f2 = b.f2
      · rw [if_pos (sgn_eq h2), if_pos h2]
        by_cases h3 : a.f3.f0 = b.f3.f0
        · rw [if_pos (sgn_eq h3), if_pos h3]
          by_cases h4 : a.f3.f1 = b.f3.f1
          · rw [if_pos (sgn_eq h4), if_pos h4]
            by_cases h5 : a.f3.f2 = b.f3.f2
            · rw [if_pos (sgn_eq h5)]
              simp [h5]
            · rw [if_neg (sgn_ne h5).1]
              exact (sgn_ne h5).2
          · rw [if_neg (sgn_ne h4).1, if_neg h4]
            exact (sgn_ne h4).2
        · rw [if_neg (sgn_ne h3).1, if_neg h3]
          exact (sgn_ne h3).2
      · rw [if_neg (sgn_ne h2).1, if_neg h2]
        exact (sgn_ne h2).2
    · rw [if_neg (sgn_ne h1).1, if_neg h1]
      exact (sgn_ne h1).2
  · rw [if_neg (sgn_ne h0).1, if_neg h0]
    exact (sgn_ne h0).2
def to41 (x : S37) : S41 := ⟨x.f0, x.f1, x.f2⟩
def to43 (x : S39) : S43 := ⟨x.f0, x.f1, x.f2, to41 x.f3⟩
theorem to_fact (a b c d e f : Int) : laws_toFact.f a b c d e f = some (a, b, c, d, e, f) := rfl
theorem sz_some (l : List S39) (n : Int) (hl : l.length ≤ 9223372036854775807) (h0 : 0 ≤ n) (h1 : n ≤ 1048576) : laws_szFactS.f l n = some (if n < l.length then -1 else n - l.length) := by
  unfold laws_szFactS.f
  rw [w64 (by omega) (by omega)]
  by_cases h : n < (l.length : Int)
  · rw [if_pos (by omega), if_pos h]
  · rw [if_neg (by omega), if_neg h]
theorem toFactS_l0 (x0 : List S39) (hn : x0.length ≤ 1048576) (d : Nat) : ∀ (k i : Nat) (x3 : List S43), i + d = x0.length → d < k → x3.length = x0.length → (∀ j, j < i → x3.getD j z43 = to43 (x0.getD j z39)) →
    laws_toFactS.l0 k x0 x3 i = some (x0.map to43) := by
  induction d with
  | zero =>
    intro k i x3 hi hk hl h
    obtain ⟨k, rfl⟩ := succ_of hk
    simp only [laws_toFactS.l0]
    rw [if_neg (by omega)]
    refine congrArg some (ext_getD z43 (by simpa using hl) fun j hj => ?_)
    rw [h j (by omega)]
    simp [List.getD, show j < x0.length by omega]
  | succ d ih =>
    intro k i x3 hi hk hl h
    obtain ⟨k, rfl⟩ := succ_of hk
    simp only [laws_toFactS.l0]
    rw [if_pos (by omega), if_pos (by omega), to_fact]
    simp only [Option.bind_some]
    rw [if_pos (by omega), w64 (by omega) (by omega)]
    refine ih k (i + 1) _ (by omega) (by omega) (by simpa using hl) fun j hj => ?_
    have e : ((i : Nat) : Int).toNat = i := by omega
    rw [e]
    by_cases hji : j = i
    · subst hji
      rw [set_getD_eq _ _ _ _ (by omega)]
      simp only [rd_T39, e]
      rfl
    · rw [set_getD_ne _ _ _ _ _ (by omega)]
      exact h j (by omega)
theorem toFactS (l : List S39) (hn : l.length ≤ 1048576) (k : Nat) (hk : l.length < k) : laws_toFactS.f k l = some (l.map to43) := by
  unfold laws_toFactS.f
  rw [if_pos (by omega), if_pos (by omega)]
  exact toFactS_l0 l hn l.length k 0 _ (by omega) hk (by simp) (fun j hj => by omega)
theorem eqFact_refl (a : S43) : laws_eqFact.f a.f0 a.f1 a.f2 a.f3.f0 a.f3.f1 a.f3.f2 a.f0 a.f1 a.f2 a.f3.f0 a.f3.f1 a.f3.f2 = some true := by
  simp [laws_eqFact.f, laws_eqAbs.f]
theorem eqFactS_l0 (x : List S43) (hn : x.length ≤ 4000000) (d : Nat) : ∀ (k i : Nat), i + d = x.length → d < k → laws_eqFactS.l0 k x x i = some true := by
  induction d with
  | zero =>
    intro k i hi hk
    obtain ⟨k, rfl⟩ := succ_of hk
    simp only [laws_eqFactS.l0]
    rw [if_neg (by omega)]
  | succ d ih =>
    intro k i hi hk
    obtain ⟨k, rfl⟩ := succ_of hk
    simp only [laws_eqFactS.l0]
    rw [if_pos (by omega), if_pos (by omega), if_pos (by omega), eqFact_refl]
    simp only [Option.bind_some, if_true]
    rw [w64 (by omega) (by omega)]
    exact ih k (i + 1) (by omega) (by omega)
theorem eqFactS (x : List S43) (hn : x.length ≤ 4000000) (k : Nat) (hk : x.length < k) : laws_eqFactS.f k x x = some true := by
  unfold laws_eqFactS.f
  rw [if_pos rfl]
  exact eqFactS_l0 x hn x.length k 0 (by omega) hk
def upB (x : List S43) (i : Nat) : Bool := lessB (x.getD (i - 1) z43) (x.getD i z43)
def okFrom (x : List S43) : Nat → Nat → Bool
  | 0, _ => decide ((x.length : Int) ≤ 2500)
  | d + 1, i => if upB x i = true then okFrom x d (i + 1) else false
theorem specOk_l0 (x : List S43) (hn : x.length ≤ 4000000) (d : Nat) : ∀ (k i : Nat), 1 ≤ i → i + d = x.length ∨ (d = 0 ∧ x.length ≤ i) → d < k → i ≤ 4000001 → spec_FactsOk.l0 k x i = some (okFrom x d i) := by
  induction d with
  | zero =>
    intro k i h1 hi hk hb
    obtain ⟨k, rfl⟩ := succ_of hk
    simp only [spec_FactsOk.l0]
    rw [if_neg (by omega)]
    rfl
  | succ d ih =>
    intro k i h1 hi hk hb
    obtain ⟨k, rfl⟩ := succ_of hk
    simp only [spec_FactsOk.l0]
    rw [if_pos (by omega), w64 (by omega) (by omega), if_pos (by omega), if_pos (by omega), if_pos (by omega), spec_less]
    simp only [Option.bind_some]
    have e : lessB (rd_T43 x (↑i - 1)) (rd_T43 x ↑i) = upB x i := by
      unfold upB rd_T43
      rw [show ((i : Int) - 1).toNat = i - 1 by omega, show (i : Int).toNat = i by omega]
    rw [e, w64 (by omega) (by omega)]
    unfold okFrom
    by_cases h : upB x i = true
    · rw [if_pos h, if_pos h]
      exact ih k (i + 1) (by omega) (by omega) (by omega) (by omega)
    · rw [if_neg h, if_neg h]
theorem implOk_l0 (x : List S43) (hn : x.length ≤ 4000000) (d : Nat) : ∀ (k i : Nat), 1 ≤ i → i + d = x.length ∨ (d = 0 ∧ x.length ≤ i) → d + 8 < k → i ≤ 4000001 → impl_FactsOk.l0 k x i = some (okFrom x d i) := by
  induction d with
  | zero =>
    intro k i h1 hi hk hb
    obtain ⟨k, rfl⟩ := succ_of (show 0 < k by omega)
    simp only [impl_FactsOk.l0]
    rw [if_neg (by omega)]
    rfl
  | succ d ih =>
    intro k i h1 hi hk hb
    obtain ⟨k, rfl⟩ := succ_of (show 0 < k by omega)
    simp only [impl_FactsOk.l0]
    rw [if_pos (by omega), w64 (by omega) (by omega), if_pos (by omega), if_pos (by omega), if_pos (by omega), impl_less _ (by omega)]
    simp only [Option.bind_some]
    have e : lessB (rd_T43 x (↑i - 1)) (rd_T43 x ↑i) = upB x i := by
      unfold upB rd_T43
      rw [show ((i : Int) - 1).toNat = i - 1 by omega, show (i : Int).toNat = i by omega]
    rw [e, w64 (by omega) (by omega)]
    unfold okFrom
    by_cases h : upB x i = true
    · rw [if_pos h, if_pos h]
      exact ih k (i + 1) (by omega) (by omega) (by omega) (by omega)
    · rw [if_neg h, if_neg h]
def okB (x : List S43) : Bool := okFrom x (x.length - 1) 1
theorem specOk (x : List S43) (hn : x.length ≤ 4000000) (k : Nat) (hk : x.length < k) : spec_FactsOk.f k x = some (okB x) := by
  unfold spec_FactsOk.f okB
  exact specOk_l0 x hn _ k 1 (by omega) (by omega) (by omega) (by omega)
theorem implOk (x : List S43) (hn : x.length ≤ 4000000) (k : Nat) (hk : x.length + 8 < k) : impl_FactsOk.f k x = some (okB x) := by
  unfold impl_FactsOk.f okB
  exact implOk_l0 x hn _ k 1 (by omega) (by omega) (by omega) (by omega)
theorem ok_len {x : List S43} (h : okB x = true) : x.length ≤ 2500 := by
  have key : ∀ d i, okFrom x d i = true → x.length ≤ 2500 := by
    intro d
    induction d with
    | zero =>
      intro i h
      simp [okFrom] at h
      omega
    | succ d ih =>
      intro i h
      unfold okFrom at h
      split at h
      · exact ih _ h
      · cases h
  exact key _ _ h
theorem ok_up {x : List S43} (h : okB x = true) : ∀ i, 1 ≤ i → i < x.length → Less (x.getD (i - 1) z43) (x.getD i z43) := by
  have key : ∀ d i, okFrom x d i = true → i + d = x.length → ∀ j, i ≤ j → j < x.length → Less (x.getD (j - 1) z43) (x.getD j z43) := by
    intro d
    induction d with
    | zero =>
      intro i _ hi j h1 h2
      omega
    | succ d ih =>
      intro i h hi j h1 h2
      unfold okFrom at h
      by_cases hu : upB x i = true
      · rw [if_pos hu] at h
        by_cases hij : i = j
        · subst hij
          exact (less_iff _ _).1 hu
        · exact ih (i + 1) h (by omega) j (by omega) h2
      · rw [if_neg hu] at h
        cases h
  intro i h1 h2
  exact key _ _ h (by omega) i h1 h2
theorem ok_mono {x : List S43} (h : okB x = true) (i : Nat) : ∀ d, i + d + 1 < x.length + 0 → Less (x.getD i z43) (x.getD (i + d + 1) z43) := by
  intro d
  induction d with
  | zero =>
    intro hd
    exact ok_up h (i + 1) (by omega) (by omega)
  | succ d ih =>
    intro hd
    exact less_trans (ih (by omega)) (ok_up h (i + (d + 1) + 1) (by omega) (by omega))
theorem ok_lt {x : List S43} (h : okB x = true) {i j : Nat} (hij : i < j) (hj : j < x.length) : Less (x.getD i z43) (x.getD j z43) := by
  have := ok_mono h i (j - i - 1) (by omega)
  rwa [show i + (j - i - 1) + 1 = j by omega] at this
def placeB (x : List S43) (f : S43) : Nat → Nat → Nat → Nat
  | 0, lo, _ => lo
  | d + 1, lo, hi => if lo < hi then (if lessB (x.getD ((lo + hi) / 2) z43) f = true then placeB x f d ((lo + hi) / 2 + 1) hi else placeB x f d lo ((lo + hi) / 2)) else lo
theorem specPlace_l0 (x : List S43) (f : S43) (hn : x.length ≤ 4000000) (d : Nat) : ∀ (k lo hi : Nat), hi ≤ lo + d → hi ≤ x.length → lo ≤ 4000001 → d < k → spec_l15Place.l0 k x lo hi f.f0 f.f1 f.f2 f.f3.f0 f.f3.f1 f.f3.f2 = some (placeB x f d lo hi : Int) := by
  induction d with
  | zero =>
    intro k lo hi h hh hb hk
    obtain ⟨k, rfl⟩ := succ_of hk
    simp only [spec_l15Place.l0, placeB]
    rw [if_neg (by omega)]
  | succ d ih =>
    intro k lo hi h hh hb hk
    obtain ⟨k, rfl⟩ := succ_of hk
    simp only [spec_l15Place.l0, placeB]
    by_cases hlt : lo < hi
    · have em : wrap64 (Int.tdiv (wrap64 ((lo : Int) + (hi : Int))) 2) = (((lo + hi) / 2 : Nat) : Int) := by
        rw [w64 (x := (lo : Int) + hi) (by omega) (by omega), Int.tdiv_eq_ediv_of_nonneg (by omega), w64 (by omega) (by omega)]
        omega
      rw [em, if_pos (by omega), if_pos (by omega), if_pos (by omega), if_pos hlt, spec_less]
      simp only [Option.bind_some]
      have e : rd_T43 x (((lo + hi) / 2 : Nat) : Int) = x.getD ((lo + hi) / 2) z43 := by
        unfold rd_T43
        rw [Int.toNat_natCast]
      rw [e]
      by_cases hl : lessB (x.getD ((lo + hi) / 2) z43) f = true
      · rw [if_pos hl, if_pos hl, w64 (by omega) (by omega)]
        exact ih k ((lo + hi) / 2 + 1) hi (by omega) hh (by omega) (by omega)
      · rw [if_neg hl, if_neg hl]
        exact ih k lo ((lo + hi) / 2) (by omega) (by omega) (by omega) (by omega)
    · rw [if_neg (by omega), if_neg hlt]
theorem implPlace_l0 (x : List S43) (f : S43) (hn : x.length ≤ 4000000) (d : Nat) : ∀ (k lo hi : Nat), hi ≤ lo + d → hi ≤ x.length → lo ≤ 4000001 → d + 8 < k → impl_factAt.l0 k x lo hi f.f0 f.f1 f.f2 f.f3.f0 f.f3.f1 f.f3.f2 = some (placeB x f d lo hi : Int) := by
  induction d with
  | zero =>
    intro k lo hi h hh hb hk
    obtain ⟨k, rfl⟩ := succ_of (show 0 < k by omega)
    simp only [impl_factAt.l0, placeB]
    rw [if_neg (by omega)]
  | succ d ih =>
    intro k lo hi h hh hb hk
    obtain ⟨k, rfl⟩ := succ_of (show 0 < k by omega)
    simp only [impl_factAt.l0, placeB]
    by_cases hlt : lo < hi
    · have em : wrap64 (Int.tdiv (wrap64 ((lo : Int) + (hi : Int))) 2) = (((lo + hi) / 2 : Nat) : Int) := by
        rw [w64 (x := (lo : Int) + hi) (by omega) (by omega), Int.tdiv_eq_ediv_of_nonneg (by omega), w64 (by omega) (by omega)]
        omega
      rw [em, if_pos (by omega), if_pos (by omega), if_pos (by omega), if_pos hlt, impl_less _ (by omega)]
      simp only [Option.bind_some]
      have e : rd_T43 x (((lo + hi) / 2 : Nat) : Int) = x.getD ((lo + hi) / 2) z43 := by
        unfold rd_T43
        rw [Int.toNat_natCast]
      rw [e]
      by_cases hl : lessB (x.getD ((lo + hi) / 2) z43) f = true
      · rw [if_pos hl, if_pos hl, w64 (by omega) (by omega)]
        exact ih k ((lo + hi) / 2 + 1) hi (by omega) hh (by omega) (by omega)
      · rw [if_neg hl, if_neg hl]
        exact ih k lo ((lo + hi) / 2) (by omega) (by omega) (by omega) (by omega)
    · rw [if_neg (by omega), if_neg hlt]
def place (x : List S43) (f : S43) : Nat := placeB x f x.length 0 x.length
theorem specPlace (x : List S43) (f : S43) (hn : x.length ≤ 4000000) (k : Nat) (hk : x.length < k) : spec_l15Place.f k x f.f0 f.f1 f.f2 f.f3.f0 f.f3.f1 f.f3.f2 = some (place x f : Int) := by
  unfold spec_l15Place.f place
  exact specPlace_l0 x f hn _ k 0 _ (by omega) (by omega) (by omega) hk
theorem implPlace (x : List S43) (f : S43) (hn : x.length ≤ 4000000) (k : Nat) (hk : x.length + 8 < k) : impl_factAt.f k x f.f0 f.f1 f.f2 f.f3.f0 f.f3.f1 f.f3.f2 = some (place x f : Int) := by
  unfold impl_factAt.f place
  exact implPlace_l0 x f hn _ k 0 _ (by omega) (by omega) (by omega) hk
def eqB (a f : S43) : Bool := a.f0 == f.f0 && (a.f1 == f.f1 && (a.f2 == f.f2 && ((a.f3.f0 == f.f3.f0 && (a.f3.f1 == f.f3.f1 && (a.f3.f2 == f.f3.f2))))))
def hasB (x : List S43) (f : S43) : Bool := if place x f < x.length then eqB (x.getD (place x f) z43) f else false
theorem specHas (x : List S43) (f : S43) (hn : x.length ≤ 4000000) (k : Nat) (hk : x.length < k) : spec_FactHas.f k x f.f0 f.f1 f.f2 f.f3.f0 f.f3.f1 f.f3.f2 = some (okB x && hasB x f) := by
  unfold spec_FactHas.f hasB
  rw [specOk x hn k hk]
  simp only [Option.bind_some]
  by_cases h : okB x = true
  · rw [if_pos h, specPlace x f hn k hk]
    simp only [Option.bind_some]
    by_cases h' : place x f < x.length
    · rw [if_pos (by omega), if_pos (by omega), if_pos h', h]
      simp only [rd_T43, Int.toNat_natCast, Bool.true_and]
      rfl
    · rw [if_neg (by omega), if_neg h']
      simp
  · rw [if_neg h]
    simp [h]
theorem implHas_ (x : List S43) (f : S43) (hn : x.length ≤ 4000000) (k : Nat) (hk : x.length + 8 < k) : impl_has.f k x f.f0 f.f1 f.f2 f.f3.f0 f.f3.f1 f.f3.f2 = some (hasB x f) := by
  unfold impl_has.f hasB
  rw [implPlace x f hn k hk]
  simp only [Option.bind_some]
  by_cases h' : place x f < x.length
  · rw [if_pos (by omega), if_pos (by omega), if_pos h']
    simp only [rd_T43, Int.toNat_natCast]
    rfl
  · rw [if_neg (by omega), if_neg h']
theorem implHas (x : List S43) (f : S43) (hn : x.length ≤ 4000000) (k : Nat) (hk : x.length + 8 < k) : impl_FactHas.f k x f.f0 f.f1 f.f2 f.f3.f0 f.f3.f1 f.f3.f2 = some (okB x && hasB x f) := by
  unfold impl_FactHas.f
  rw [implOk x hn k hk]
  simp only [Option.bind_some]
  by_cases h : okB x = true
  · rw [if_pos h, implHas_ x f hn k hk, h]
    rfl
  · rw [if_neg h]
    simp [h]
end Go.Proofs.Ytdjomoogldkpfaa.UFacts
end
section
namespace Go.Proofs.Ytdjomoogldkpfaa.UFacts
open Go.RowKit Go.Proofs.Ytdjomoogldkpfaa.PAll Go.Proofs.YtdjomoogldkpfaaW.PrintWords Go.Proofs.YtdjomoogldkpfaaW.PrintLast Go.Proofs.Ytdjomoogldkpfaa.UBase
theorem Less.trans {a b c : S43} (h : Less a b) (h' : Less b c) : Less a c := by
  unfold Less at *
  omega
theorem placeB_spec (x : List S43) (f : S43) (h : okB x = true) (d : Nat) : ∀ (lo hi : Nat), lo ≤ hi → hi ≤ lo + d → hi ≤ x.length → (∀ j, j < lo → Less (x.getD j z43) f) → (∀ j, hi ≤ j → j < x.length → ¬ Less (x.getD j z43) f) →
    placeB x f d lo hi ≤ x.length ∧ (∀ j, j < placeB x f d lo hi → Less (x.getD j z43) f) ∧ (∀ j, placeB x f d lo hi ≤ j → j < x.length → ¬ Less (x.getD j z43) f) := by
  induction d with
  | zero =>
    intro lo hi h0 h1 h2 ha hb
    have : hi = lo := by omega
    subst this
    exact ⟨h2, ha, hb⟩
  | succ d ih =>
    intro lo hi h0 h1 h2 ha hb
    simp only [placeB]
    by_cases hl : lo < hi
    · rw [if_pos hl]
      by_cases hm : lessB (x.getD ((lo + hi) / 2) z43) f = true
      · rw [if_pos hm]
        have hm' := (less_iff _ _).1 hm
        refine ih _ _ (by omega) (by omega) h2 (fun j hj => ?_) hb
        by_cases hjm : j = (lo + hi) / 2
        · rw [hjm]; exact hm'
        · exact (ok_lt h (show j < (lo + hi) / 2 by omega) (by omega)).trans hm'
      · rw [if_neg hm]
        have hm' : ¬ Less (x.getD ((lo + hi) / 2) z43) f := fun e => hm ((less_iff _ _).2 e)
        refine ih _ _ (by omega) (by omega) (by omega) ha (fun j hj hj' => ?_)
        by_cases hjm : j = (lo + hi) / 2
        · rw [hjm]; exact hm'
        · exact fun e => hm' ((ok_lt h (show (lo + hi) / 2 < j by omega) hj').trans e)
    · rw [if_neg hl]
      have : hi = lo := by omega
      subst this
      exact ⟨h2, ha, hb⟩
theorem place_spec (x : List S43) (f : S43) (h : okB x = true) : place x f ≤ x.length ∧ (∀ j, j < place x f → Less (x.getD j z43) f) ∧ (∀ j, place x f ≤ j → j < x.length → ¬ Less (x.getD j z43) f) :=
  placeB_spec x f h x.length 0 x.length (by omega) (by omega) (by omega) (fun j hj => by omega) (fun j h1 h2 => by omega)
def KeyAt (a b c : Int) (e : S43) : Prop := e.f0 = a ∧ e.f1 = b ∧ e.f2 = c
instance (a b c : Int) (e : S43) : Decidable (KeyAt a b c e) := inferInstanceAs (Decidable (_ ∧ _ ∧ _))
def absFrom (x : List S43) (a b c : Int) : Nat → Nat → List S41
  | 0, _ => []
  | d + 1, i => if KeyAt a b c (x.getD i z43) ∧ 0 ≤ (x.getD i z43).f3.f0 then (x.getD i z43).f3 :: absFrom x a b c d (i + 1) else absFrom x a b c d (i + 1)
def absB (x : List S43) (a b c : Int) : List S41 := if okB x = true then absFrom x a b c x.length 0 else []
theorem absFrom_len (x : List S43) (a b c : Int) (d : Nat) : ∀ i, (absFrom x a b c d i).length ≤ d := by
  induction d with
  | zero => intro i; simp [absFrom]
  | succ d ih =>
    intro i
    simp only [absFrom]
    have := ih (i + 1)
    split <;> simp <;> omega
theorem absB_len (x : List S43) (a b c : Int) : (absB x a b c).length ≤ x.length := by
  unfold absB
  split
  · exact absFrom_len x a b c _ _
  · simp
theorem rd_fact (x : List S43) (i : Nat) : rd_T43 x (i : Int) = x.getD i z43 := by
  unfold rd_T43
  rw [Int.toNat_natCast]
theorem implAbs_l0 (x : List S43) (a b c : Int) (hn : x.length ≤ 4000000) (d : Nat) : ∀ (k i : Nat) (y : List S41), i + d = x.length → d < k → y.length + d ≤ 4000000 → impl_AbsAt.l0 k a b c y x x.length i = some (y ++ absFrom x a b c d i) := by
  induction d with
  | zero =>
    intro k i y hi hk hy
    obtain ⟨k, rfl⟩ := succ_of hk
    simp only [impl_AbsAt.l0, absFrom]
    rw [if_neg (by omega), List.append_nil]
  | succ d ih =>
    intro k i y hi hk hy
    obtain ⟨k, rfl⟩ := succ_of hk
    simp only [impl_AbsAt.l0, absFrom, rd_fact]
    rw [if_pos (by omega), if_pos (by omega), if_pos (by omega), w64 (by omega) (by omega)]
    generalize x.getD i z43 = e
    have nope : ¬ (KeyAt a b c e ∧ 0 ≤ e.f3.f0) → impl_AbsAt.l0 k a b c y x x.length ((i : Int) + 1) = some (y ++ (if KeyAt a b c e ∧ 0 ≤ e.f3.f0 then e.f3 :: absFrom x a b c d (i + 1) else absFrom x a b c d (i + 1))) := by
      intro hc
      rw [if_neg hc]
      exact ih k (i + 1) y (by omega) (by omega) (by omega)
    by_cases h0 : e.f0 = a
    · by_cases h1 : e.f1 = b
      · by_cases h2 : e.f2 = c
        · by_cases h3 : e.f3.f0 ≥ 0
          · rw [if_pos h0, if_pos h1, if_pos h2, if_pos h3, if_pos (by omega), if_pos ⟨⟨h0, h1, h2⟩, h3⟩]
            have := ih k (i + 1) (y ++ [e.f3]) (by omega) (by omega) (by simp; omega)
            rw [List.append_assoc] at this
            exact this
          · rw [if_pos h0, if_pos h1, if_pos h2, if_neg h3]
            exact nope fun hc => h3 hc.2
        · rw [if_pos h0, if_pos h1, if_neg h2]
          exact nope fun hc => h2 hc.1.2.2
      · rw [if_pos h0, if_neg h1]
        exact nope fun hc => h1 hc.1.2.1
    · rw [if_neg h0]
      exact nope fun hc => h0 hc.1.1
theorem implAbs (x : List S43) (a b c : Int) (hn : x.length ≤ 1100000) (k : Nat) (hk : x.length + 10 < k) : impl_AbsAt.f k x a b c = some (absB x a b c) := by
  unfold impl_AbsAt.f absB
  rw [implOk x (by omega) k (by omega)]
  simp only [Option.bind_some]
  by_cases h : okB x = true
  · rw [if_pos h, if_pos h]
    exact implAbs_l0 x a b c (by omega) x.length k 0 [] (by omega) (by omega) (by simp; omega)
  · rw [if_neg h, if_neg h]
theorem absFrom_none (x : List S43) (a b c : Int) (d : Nat) : ∀ i, (∀ j, i ≤ j → j < i + d → ¬ (KeyAt a b c (x.getD j z43) ∧ 0 ≤ (x.getD j z43).f3.f0)) → absFrom x a b c d i = [] := by
  induction d with
  | zero => intro i _; rfl
  | succ d ih =>
    intro i h
    simp only [absFrom]
    rw [if_neg (h i (by omega) (by omega))]
    exact ih (i + 1) fun j h1 h2 => h j (by omega) (by omega)
theorem absFrom_skip (x : List S43) (a b c : Int) (d e : Nat) : ∀ i, (∀ j, i ≤ j → j < i + d → ¬ (KeyAt a b c (x.getD j z43) ∧ 0 ≤ (x.getD j z43).f3.f0)) → absFrom x a b c (d + e) i = absFrom x a b c e (i + d) := by
  induction d with
  | zero => intro i _; rw [Nat.zero_add]; rfl
  | succ d ih =>
    intro i h
    rw [show d + 1 + e = (d + e) + 1 by omega]
    simp only [absFrom]
    rw [if_neg (h i (by omega) (by omega)), ih (i + 1) fun j h1 h2 => h j (by omega) (by omega), show i + 1 + d = i + (d + 1) by omega]
def low (a b c : Int) : S43 := ⟨a, b, c, ⟨-1, 0, 0⟩⟩
theorem specAbs_l0 (x : List S43) (a b c : Int) (h : okB x = true) (hn : x.length ≤ 4000000) (d : Nat) : ∀ (k i : Nat) (y : List S41), i + d = x.length → 2 * d + 2 < k → y.length + d ≤ 4000000 → (∀ j, i ≤ j → j < x.length → ¬ Less (x.getD j z43) (low a b c)) → spec_l15At.l0 k x a b c y i = some (y ++ absFrom x a b c d i) := by
  have stop : ∀ (k : Nat) (y : List S41) (i : Int), 0 < k → spec_l15At.j1 k x a b c y i false = some y := by
    intro k y i hk
    obtain ⟨k, rfl⟩ := succ_of hk
    simp only [spec_l15At.j1]
    rw [if_neg (by simp)]
  induction d with
  | zero =>
    intro k i y hi hk hy _
    obtain ⟨k, rfl⟩ := succ_of (show 0 < k by omega)
    simp only [spec_l15At.l0, absFrom]
    rw [if_neg (by omega), stop _ _ _ (by omega), List.append_nil]
  | succ d ih =>
    intro k i y hi hk hy hj
    obtain ⟨k, rfl⟩ : ∃ m, k = m + 2 := ⟨k - 2, by omega⟩
    have off : ¬ KeyAt a b c (x.getD i z43) → y = y ++ absFrom x a b c (d + 1) i := by
      intro hc
      rw [absFrom_none x a b c (d + 1) i, List.append_nil]
      intro j h1 h2 hk'
      by_cases hji : j = i
      · subst hji; exact hc hk'.1
      · have hl := ok_lt h (show i < j by omega) (by omega)
        have hi' := hj i (by omega) (by omega)
        obtain ⟨⟨k0, k1, k2⟩, k3⟩ := hk'
        revert hc hl hi' k0 k1 k2 k3
        generalize x.getD j z43 = u
        generalize x.getD i z43 = v
        unfold KeyAt Less low
        simp only
        omega
    simp only [spec_l15At.l0, rd_fact]
    rw [if_pos (by omega), if_pos (by omega)]
    by_cases h0 : (x.getD i z43).f0 = a
    · by_cases h1 : (x.getD i z43).f1 = b
      · by_cases h2 : (x.getD i z43).f2 = c
        · rw [if_pos h0, if_pos h1, h2, beq_self_eq_true]
          simp only [spec_l15At.j1, rd_fact, absFrom]
          rw [if_pos trivial, if_pos (by omega), if_pos (by omega), w64 (by omega) (by omega)]
          by_cases h3 : (x.getD i z43).f3.f0 ≥ 0
          · rw [if_pos h3, if_pos (by omega), if_pos ⟨⟨h0, h1, h2⟩, h3⟩]
            have := ih k (i + 1) (y ++ [(x.getD i z43).f3]) (by omega) (by omega) (by simp; omega) (fun j h4 h5 => hj j (by omega) h5)
            rw [List.append_assoc] at this
            exact this
          · rw [if_neg h3, if_neg fun hc => h3 hc.2]
            exact ih k (i + 1) y (by omega) (by omega) (by omega) (fun j h4 h5 => hj j (by omega) h5)
        · rw [if_pos h0, if_pos h1, beq_false_of_ne h2, stop _ _ _ (by omega)]
          exact congrArg some (off fun hc => h2 hc.2.2)
      · rw [if_pos h0, if_neg h1, stop _ _ _ (by omega)]
        exact congrArg some (off fun hc => h1 hc.2.1)
    · rw [if_neg h0, stop _ _ _ (by omega)]
      exact congrArg some (off fun hc => h0 hc.1)
theorem specAbs (x : List S43) (a b c : Int) (hn : x.length ≤ 1100000) (k : Nat) (hk : 2 * x.length + 10 < k) : spec_AbsAt.f k x a b c = some (absB x a b c) := by
  unfold spec_AbsAt.f absB
  rw [specOk x (by omega) k (by omega)]
  simp only [Option.bind_some]
  by_cases h : okB x = true
  · rw [if_pos h, if_pos h]
    unfold spec_l15At.f
    have hp := specPlace x (low a b c) (by omega) k (by omega)
    obtain ⟨h0, h1, h2⟩ := place_spec x (low a b c) h
    have hp' : spec_l15Place.f k x a b c (-1) 0 0 = some (place x (low a b c) : Int) := hp
    rw [hp']
    simp only [Option.bind_some]
    rw [specAbs_l0 x a b c h (by omega) (x.length - place x (low a b c)) k (place x (low a b c)) [] (by omega) (by omega) (by simp; omega) h2]
    simp only [Option.bind_some, List.nil_append]
    refine congrArg some ?_
    have := absFrom_skip x a b c (place x (low a b c)) (x.length - place x (low a b c)) 0 (fun j _ h4 hc => by
      have hl := h1 j (by omega)
      obtain ⟨⟨k0, k1, k2⟩, k3⟩ := hc
      revert hl k0 k1 k2 k3
      generalize x.getD j z43 = u
      unfold Less low
      simp only
      omega)
    rw [show place x (low a b c) + (x.length - place x (low a b c)) = x.length by omega, Nat.zero_add] at this
    exact this.symm
  · rw [if_neg h, if_neg h]
end Go.Proofs.Ytdjomoogldkpfaa.UFacts
end
section
namespace Go.Proofs.Ytdjomoogldkpfaa.UFacts
open Go.RowKit Go.Proofs.Ytdjomoogldkpfaa.PAll Go.Proofs.YtdjomoogldkpfaaW.PrintWords Go.Proofs.YtdjomoogldkpfaaW.PrintLast Go.Proofs.Ytdjomoogldkpfaa.UBase
def putB (x : List S43) (f : S43) : List S43 := (x.take (place x f) ++ [f]) ++ x.drop (place x f)
def addB (x : List S43) (f : S43) : List S43 := if okB x = true then (if (x.length : Int) ≥ 2500 then x else if hasB x f = true then x else putB x f) else x
theorem addB_len (x : List S43) (f : S43) : (addB x f).length ≤ x.length + 1 := by
  unfold addB putB
  split
  · split
    · omega
    · split
      · omega
      · simp; omega
  · omega
theorem implAdd (x : List S43) (f : S43) (hn : x.length ≤ 1100000) (k : Nat) (hk : x.length + 20 < k) : impl_FactAdd.f k x f.f0 f.f1 f.f2 f.f3.f0 f.f3.f1 f.f3.f2 = some (addB x f) := by
  unfold impl_FactAdd.f addB
  rw [if_pos (by simp; omega), implOk x (by omega) k (by omega)]
  simp only [Option.bind_some, List.nil_append]
  by_cases h : okB x = true
  · rw [if_pos h, if_pos h]
    by_cases hl : (x.length : Int) ≥ 2500
    · rw [if_pos hl, if_pos hl]
    · rw [if_neg hl, if_neg hl, implHas_ x f (by omega) k (by omega)]
      simp only [Option.bind_some]
      by_cases hh : hasB x f = true
      · rw [if_pos hh, if_pos hh]
      · obtain ⟨hp, _, _⟩ := place_spec x f h
        rw [if_neg hh, if_neg hh, implPlace x f (by omega) k (by omega)]
        simp only [Option.bind_some, Int.toNat_natCast]
        rw [if_pos (by omega), if_pos (by omega), if_pos (by simp; omega), if_pos (by omega), if_pos (by simp; omega)]
        rfl
  · rw [if_neg h, if_neg h]
theorem spec15Add (x : List S43) (f : S43) (hn : x.length ≤ 1100000) (h : okB x = true) (k : Nat) (hk : x.length + 20 < k) : spec_l15Add.f k x f.f0 f.f1 f.f2 f.f3.f0 f.f3.f1 f.f3.f2 = some (if hasB x f = true then x else putB x f) := by
  obtain ⟨hp, _, _⟩ := place_spec x f h
  unfold spec_l15Add.f
  rw [specPlace x f (by omega) k (by omega)]
  simp only [Option.bind_some, Int.toNat_natCast, List.nil_append, List.length_nil]
  by_cases hl : place x f < x.length
  · rw [if_pos (by omega), if_pos (by omega)]
    have e : hasB x f = eqB (x.getD (place x f) z43) f := by unfold hasB; rw [if_pos hl]
    have e2 : (((rd_T43 x (place x f : Int)).f0) == f.f0 && (((rd_T43 x (place x f : Int)).f1) == f.f1 && (((rd_T43 x (place x f : Int)).f2) == f.f2 && ((((rd_T43 x (place x f : Int)).f3.f0) == f.f3.f0 && (((rd_T43 x (place x f : Int)).f3.f1) == f.f3.f1 && (((rd_T43 x (place x f : Int)).f3.f2) == f.f3.f2))))))) = hasB x f := by
      rw [e, rd_fact]; rfl
    rw [e2]
    by_cases hh : hasB x f = true
    · rw [if_pos hh, if_pos hh]
    · rw [if_neg hh, if_neg hh, if_pos (by omega), if_pos (by simp; omega), if_pos (by simp; omega), if_pos (by simp; omega)]
      rfl
  · have e : hasB x f = false := by unfold hasB; rw [if_neg hl]
    have hr : (if hasB x f = true then x else putB x f) = putB x f := by rw [e]; rfl
    rw [if_neg (by omega), hr, if_pos (by omega), if_pos (by omega), if_pos (by simp; omega), if_pos (by simp; omega), if_pos (by simp; omega)]
    rfl
theorem specAdd (x : List S43) (f : S43) (hn : x.length ≤ 1100000) (k : Nat) (hk : x.length + 20 < k) : spec_FactAdd.f k x f.f0 f.f1 f.f2 f.f3.f0 f.f3.f1 f.f3.f2 = some (addB x f) := by
  unfold spec_FactAdd.f addB
  rw [specOk x (by omega) k (by omega)]
  simp only [Option.bind_some, List.nil_append, List.length_nil]
  by_cases h : okB x = true
  · rw [if_pos h, if_pos h]
    by_cases hl : (x.length : Int) ≥ 2500
    · rw [if_pos hl, if_pos hl, if_pos (by omega)]
    · rw [if_neg hl, if_neg hl, spec15Add x f hn h k hk]
      simp only [Option.bind_some]
      have hz : (if hasB x f = true then x else putB x f).length ≤ x.length + 1 := by
        split
        · omega
        · unfold putB; simp; omega
      rw [if_pos (by omega)]
  · rw [if_neg h, if_neg h, if_pos (by omega)]
end Go.Proofs.Ytdjomoogldkpfaa.UFacts
end
section
namespace Go.Proofs.Ytdjomoogldkpfaa.UFacts
open Go.RowKit Go.Proofs.Ytdjomoogldkpfaa.PAll Go.Proofs.YtdjomoogldkpfaaW.PrintWords Go.Proofs.YtdjomoogldkpfaaW.PrintLast Go.Proofs.Ytdjomoogldkpfaa.UBase
theorem eqB_iff (a f : S43) : eqB a f = true ↔ a = f := by
  unfold eqB
  constructor
  · intro h
    simp only [Bool.and_eq_true, beq_iff_eq] at h
    exact ext43 h.1 h.2.1 h.2.2.1 h.2.2.2.1 h.2.2.2.2.1 h.2.2.2.2.2
  · intro h
    subst h
    simp
theorem has_iff {x : List S43} (h : okB x = true) (g : S43) : hasB x g = true ↔ ∃ j, j < x.length ∧ x.getD j z43 = g := by
  obtain ⟨h0, h1, h2⟩ := place_spec x g h
  unfold hasB
  constructor
  · intro e
    by_cases hp : place x g < x.length
    · rw [if_pos hp] at e
      exact ⟨_, hp, (eqB_iff _ _).1 e⟩
    · rw [if_neg hp] at e
      cases e
  · rintro ⟨j, hj, hg⟩
    have hpj : place x g ≤ j := by
      by_cases hlt : j < place x g
      · have := h1 j hlt
        rw [hg] at this
        exact absurd this (less_irrefl g)
      · omega
    have hp : place x g < x.length := by omega
    have hjp : place x g = j := by
      by_cases hlt : place x g < j
      · have hl := ok_lt h hlt hj
        rw [hg] at hl
        exact absurd hl (h2 _ (Nat.le_refl _) hp)
      · omega
    rw [if_pos hp, hjp, hg]
    exact (eqB_iff g g).2 rfl
theorem ok_of {x : List S43} (hl : x.length ≤ 2500) (h : ∀ i, 1 ≤ i → i < x.length → Less (x.getD (i - 1) z43) (x.getD i z43)) : okB x = true := by
  have key : ∀ d i, 1 ≤ i → i + d = x.length ∨ (d = 0 ∧ x.length ≤ i) → okFrom x d i = true := by
    intro d
    induction d with
    | zero => intro i _ _; simp [okFrom]; omega
    | succ d ih =>
      intro i h1 hi
      simp only [okFrom]
      have hu : upB x i = true := (less_iff _ _).2 (h i h1 (by omega))
      rw [if_pos hu]
      exact ih (i + 1) (by omega) (by omega)
  exact key _ 1 (by omega) (by omega)
theorem put_at (x : List S43) (f : S43) (h : okB x = true) (j : Nat) : (putB x f).getD j z43 = if j < place x f then x.getD j z43 else if j = place x f then f else x.getD (j - 1) z43 := by
  obtain ⟨h0, _, _⟩ := place_spec x f h
  unfold putB
  have hl : (x.take (place x f)).length = place x f := by simp; omega
  simp only [List.getD, List.append_assoc]
  by_cases h1 : j < place x f
  · rw [if_pos h1, List.getElem?_append_left (by omega), List.getElem?_take, if_pos h1]
  · rw [if_neg h1, List.getElem?_append_right (by omega), hl]
    by_cases h2 : j = place x f
    · rw [if_pos h2, h2, Nat.sub_self]; rfl
    · rw [if_neg h2]
      obtain ⟨e, he⟩ : ∃ e, j - place x f = e + 1 := ⟨j - place x f - 1, by omega⟩
      rw [he, List.singleton_append, List.getElem?_cons_succ, List.getElem?_drop, show place x f + e = j - 1 by omega]
theorem put_len (x : List S43) (f : S43) (h : okB x = true) : (putB x f).length = x.length + 1 := by
  obtain ⟨h0, _, _⟩ := place_spec x f h
  unfold putB
  simp
  omega
theorem put_ok {x : List S43} (f : S43) (h : okB x = true) (hl : x.length < 2500) (hn : hasB x f = false) : okB (putB x f) = true := by
  obtain ⟨h0, h1, h2⟩ := place_spec x f h
  have hp := put_len x f h
  refine ok_of (by omega) fun i hi hj => ?_
  rw [put_at x f h, put_at x f h]
  have up := ok_up h
  by_cases c1 : i < place x f
  · rw [if_pos (by omega), if_pos c1]
    exact up i hi (by omega)
  · rw [if_neg c1]
    by_cases c2 : i = place x f
    · rw [if_pos (by omega), if_pos c2]
      exact h1 (i - 1) (by omega)
    · rw [if_neg c2]
      by_cases c3 : i - 1 = place x f
      · rw [if_neg (by omega), if_pos c3, c3]
        have hnl := h2 (place x f) (Nat.le_refl _) (by omega)
        rcases less_total (x.getD (place x f) z43) f with e | e | e
        · exact absurd e hnl
        · have : hasB x f = true := (has_iff h f).2 ⟨place x f, by omega, e⟩
          rw [hn] at this
          cases this
        · exact e
      · rw [if_neg (by omega), if_neg c3]
        exact up (i - 1) (by omega) (by omega)
theorem add_ok {x : List S43} (f : S43) (h : okB x = true) : okB (addB x f) = true := by
  unfold addB
  rw [if_pos h]
  by_cases hl : (x.length : Int) ≥ 2500
  · rw [if_pos hl]; exact h
  · rw [if_neg hl]
    cases hh : hasB x f
    · rw [if_neg (by simp)]
      exact put_ok f h (by omega) hh
    · rw [if_pos rfl]; exact h
theorem add_has {x : List S43} (f : S43) (h : okB x = true) (hl : x.length < 2500) : hasB (addB x f) f = true := by
  have ha := add_ok f h
  obtain ⟨h0, _, _⟩ := place_spec x f h
  refine (has_iff ha f).2 ?_
  cases hh : hasB x f
  · have e : addB x f = putB x f := by unfold addB; rw [if_pos h, if_neg (by omega), hh]; rfl
    rw [e]
    refine ⟨place x f, by rw [put_len x f h]; omega, ?_⟩
    rw [put_at x f h, if_neg (by omega), if_pos rfl]
  · have e : addB x f = x := by unfold addB; rw [if_pos h, if_neg (by omega), hh]; rfl
    rw [e]
    exact (has_iff h f).1 hh
theorem add_old {x : List S43} (f : S43) (h : okB x = true) (j : Nat) (hj : j < x.length) : hasB (addB x f) (x.getD j z43) = true := by
  have ha := add_ok f h
  obtain ⟨h0, _, _⟩ := place_spec x f h
  refine (has_iff ha _).2 ?_
  by_cases hl : (x.length : Int) ≥ 2500
  · have e : addB x f = x := by unfold addB; rw [if_pos h, if_pos hl]
    rw [e]
    exact ⟨j, hj, rfl⟩
  · cases hh : hasB x f
    · have e : addB x f = putB x f := by unfold addB; rw [if_pos h, if_neg hl, hh]; rfl
      rw [e]
      by_cases c : j < place x f
      · exact ⟨j, by rw [put_len x f h]; omega, by rw [put_at x f h, if_pos c]⟩
      · exact ⟨j + 1, by rw [put_len x f h]; omega, by rw [put_at x f h, if_neg (by omega), if_neg (by omega), Nat.add_sub_cancel]⟩
    · have e : addB x f = x := by unfold addB; rw [if_pos h, if_neg hl, hh]; rfl
      rw [e]
      exact ⟨j, hj, rfl⟩
theorem same_refl_l0 (x : List S43) (hn : x.length ≤ 4000000) (d : Nat) : ∀ (k i : Nat), i + d = x.length → d < k → impl_SameFacts.l0 k x x x.length i = some true := by
  induction d with
  | zero =>
    intro k i hi hk
    obtain ⟨k, rfl⟩ := succ_of hk
    simp only [impl_SameFacts.l0]
    rw [if_neg (by omega)]
  | succ d ih =>
    intro k i hi hk
    obtain ⟨k, rfl⟩ := succ_of hk
    simp only [impl_SameFacts.l0]
    rw [if_pos (by omega), if_pos (by omega), if_pos (by omega), w64 (by omega) (by omega)]
    simp only [beq_self_eq_true, Bool.not_true, Bool.or_self, Bool.false_eq_true, if_false]
    rw [if_pos (by omega)]
    exact ih k (i + 1) (by omega) (by omega)
theorem same_refl (x : List S43) (hn : x.length ≤ 4000000) (k : Nat) (hk : x.length < k) : impl_SameFacts.f k x x = some true := by
  unfold impl_SameFacts.f
  rw [if_pos rfl]
  exact same_refl_l0 x hn x.length k 0 (by omega) hk
theorem absFrom_mem (x : List S43) (a b c : Int) (v : S41) (d : Nat) : ∀ i, v ∈ absFrom x a b c d i → ∃ j, i ≤ j ∧ j < i + d ∧ KeyAt a b c (x.getD j z43) ∧ (x.getD j z43).f3 = v := by
  induction d with
  | zero => intro i h; simp [absFrom] at h
  | succ d ih =>
    intro i h
    simp only [absFrom] at h
    split at h
    · rename_i hc
      rcases List.mem_cons.1 h with e | e
      · exact ⟨i, by omega, by omega, hc.1, e.symm⟩
      · obtain ⟨j, h1, h2, h3⟩ := ih (i + 1) e
        exact ⟨j, by omega, by omega, h3⟩
    · obtain ⟨j, h1, h2, h3⟩ := ih (i + 1) h
      exact ⟨j, by omega, by omega, h3⟩
theorem mem_absFrom (x : List S43) (a b c : Int) (j : Nat) (hk : KeyAt a b c (x.getD j z43)) (h0 : 0 ≤ (x.getD j z43).f3.f0) (d : Nat) : ∀ i, i ≤ j → j < i + d → (x.getD j z43).f3 ∈ absFrom x a b c d i := by
  induction d with
  | zero => intro i h1 h2; omega
  | succ d ih =>
    intro i h1 h2
    simp only [absFrom]
    by_cases hi : i = j
    · subst hi
      rw [if_pos ⟨hk, h0⟩]
      exact List.mem_cons_self
    · have := ih (i + 1) (by omega) (by omega)
      split
      · exact List.mem_cons_of_mem _ this
      · exact this
end Go.Proofs.Ytdjomoogldkpfaa.UFacts
end
section
namespace Go.Proofs.Ytdjomoogldkpfaa.UDraw
open Go.RowKit Go.Proofs.Ytdjomoogldkpfaa.PAll Go.Proofs.YtdjomoogldkpfaaW.PrintWords Go.Proofs.YtdjomoogldkpfaaW.PrintLast Go.Proofs.Ytdjomoogldkpfaa.UBase
def Cur (b : List Int) (i : Int) : Prop := 0 ≤ i ∧ i ≤ b.length ∧ b.length ≤ 1048576
theorem and255 (y : Int) : 0 ≤ Go.bits .and .i64 y 255 ∧ Go.bits .and .i64 y 255 ≤ 255 := by
  unfold Go.bits
  simp only
  have h : (BitVec.ofInt IntKind.i64.bits y &&& BitVec.ofInt IntKind.i64.bits 255).toNat ≤ 255 := by
    rw [BitVec.toNat_and]
    exact Nat.and_le_right
  generalize (BitVec.ofInt IntKind.i64.bits y &&& BitVec.ofInt IntKind.i64.bits 255).toNat = n at h
  have e : IntKind.i64.wrap (n : Int) = (n : Int) := by
    have hm : (n : Int) % 2 ^ 64 = n := Int.emod_eq_of_lt (by omega) (by omega)
    have hd : ¬ ((n : Int) ≥ 2 ^ (64 - 1)) := by omega
    simp only [IntKind.wrap, IntKind.bits, IntKind.signed, Bool.true_and, hm, decide_eq_false hd]
    rfl
  rw [e]
  omega
theorem byte (b : List Int) (i h : Int) (hc : Cur b i) : ∃ x i' h', spec_l1Byte.f b i h = some (x, i', h') ∧ 0 ≤ x ∧ x ≤ 255 ∧ Cur b i' := by
  obtain ⟨h0, h1, h2⟩ := hc
  unfold spec_l1Byte.f
  by_cases hi : i < (b.length : Int)
  · rw [if_pos hi, if_pos h0]
    refine ⟨_, _, _, rfl, (and255 _).1, (and255 _).2, ?_⟩
    rw [w64 (by omega) (by omega)]
    exact ⟨by omega, by omega, h2⟩
  · rw [if_neg hi]
    exact ⟨_, _, _, rfl, (and255 _).1, (and255 _).2, h0, h1, h2⟩
theorem tmod_bounds {x a : Int} (hx : 0 ≤ x) (ha : 0 < a) : 0 ≤ Int.tmod x a ∧ Int.tmod x a < a := by
  rw [Int.tmod_eq_emod_of_nonneg hx]
  exact ⟨Int.emod_nonneg _ (by omega), Int.emod_lt_of_pos _ ha⟩
theorem below (b : List Int) (i h a : Int) (hc : Cur b i) : ∃ x i' h', spec_l1Below.f b i h a = some (x, i', h') ∧ 0 ≤ x ∧ (0 < a → x < a) ∧ (a ≤ 0 → x = 0) ∧ Cur b i' := by
  unfold spec_l1Below.f
  by_cases h0 : a ≤ 0
  · rw [if_pos h0]
    exact ⟨0, i, h, rfl, Int.le_refl _, fun e => by omega, fun _ => rfl, hc⟩
  · rw [if_neg h0]
    by_cases h1 : a ≤ 256
    · rw [if_pos h1]
      obtain ⟨x, i', h', e, x0, x1, hc'⟩ := byte b i h hc
      rw [e]
      simp only [Option.bind_some]
      rw [if_neg (by omega)]
      have := tmod_bounds x0 (show 0 < a by omega)
      exact ⟨_, _, _, rfl, this.1, fun _ => this.2, fun e => absurd e h0, hc'⟩
    · rw [if_neg h1]
      obtain ⟨x, i1, g1, e1, x0, x1, c1⟩ := byte b i h hc
      obtain ⟨y, i2, g2, e2, y0, y1, c2⟩ := byte b i1 g1 c1
      obtain ⟨z, i3, g3, e3, z0, z1, c3⟩ := byte b i2 g2 c2
      obtain ⟨u, i4, g4, e4, u0, u1, c4⟩ := byte b i3 g3 c3
      simp only [e1, e2, e3, e4, Option.bind_some]
      rw [if_neg (by omega), w64 (x := x * 16777216) (by omega) (by omega), w64 (x := y * 65536) (by omega) (by omega), w64 (x := z * 256) (by omega) (by omega), w64 (x := x * 16777216 + y * 65536) (by omega) (by omega), w64 (x := x * 16777216 + y * 65536 + z * 256) (by omega) (by omega), w64 (x := x * 16777216 + y * 65536 + z * 256 + u) (by omega) (by omega)]
      have := tmod_bounds (show 0 ≤ x * 16777216 + y * 65536 + z * 256 + u by omega) (show 0 < a by omega)
      exact ⟨_, _, _, rfl, this.1, fun _ => this.2, fun e => absurd e h0, c4⟩
theorem new_l0 (l : List Int) (d : Nat) : ∀ (k i : Nat) (h : Int), i + d = l.length → d < k → ∃ h', spec_l1New.l0 k l h i = some (l, 0, h') := by
  induction d with
  | zero =>
    intro k i h hi hk
    obtain ⟨k, rfl⟩ := succ_of hk
    refine ⟨h, ?_⟩
    simp only [spec_l1New.l0]
    rw [if_neg (by omega)]
  | succ d ih =>
    intro k i h hi hk
    obtain ⟨k, rfl⟩ := succ_of hk
    simp only [spec_l1New.l0]
    rw [if_pos (by omega)]
    by_cases h4 : (i : Int) < 4000
    · rw [if_pos h4, if_pos (by omega), w64 (x := (i : Int) + 1) (by omega) (by omega)]
      exact ih k (i + 1) _ (by omega) (by omega)
    · rw [if_neg h4]
      exact ⟨h, rfl⟩
theorem new (l : List Int) (hn : l.length ≤ 1048576) (k : Nat) (hk : l.length < k) : ∃ h', spec_l1New.f k l = some (l, 0, h') ∧ Cur l 0 := by
  unfold spec_l1New.f
  obtain ⟨h', e⟩ := new_l0 l l.length k 0 (wrap64 (10101 + (l.length : Int))) (by omega) hk
  exact ⟨h', e, by omega, by omega, hn⟩
theorem big (l : List Int) : laws_big.f l = some (decide ((l.length : Int) > 1048576)) := rfl
end Go.Proofs.Ytdjomoogldkpfaa.UDraw
end
section
namespace Go.Proofs.Ytdjomoogldkpfaa.UDraw
open Go.RowKit Go.Proofs.Ytdjomoogldkpfaa.PAll Go.Proofs.YtdjomoogldkpfaaW.PrintWords Go.Proofs.YtdjomoogldkpfaaW.PrintLast Go.Proofs.Ytdjomoogldkpfaa.UBase Go.Proofs.Ytdjomoogldkpfaa.UFacts
theorem once (b : List Int) (i h a : Int) (hc : Cur b i) : ∃ x i' h', spec_l1Once.f b i h a = some (x, i', h') ∧ Cur b i' := by
  unfold spec_l1Once.f
  obtain ⟨x, i', h', e, _, _, _, c⟩ := below b i h a hc
  rw [e]
  exact ⟨_, _, _, rfl, c⟩
theorem fact (b : List Int) (i h : Int) (hc : Cur b i) : ∃ (f : S43) (i' h' : Int), spec_l15Fact.f b i h = some (f.f0, f.f1, f.f2, f.f3.f0, f.f3.f1, f.f3.f2, i', h') ∧ 0 ≤ f.f3.f0 ∧ Cur b i' := by
  unfold spec_l15Fact.f
  obtain ⟨x, i1, h1, e1, x0, x1, _, c1⟩ := below b i h 8 hc
  obtain ⟨y, i2, h2, e2, y0, y1, _, c2⟩ := below b i1 h1 4 c1
  obtain ⟨z, i3, h3, e3, z0, z1, _, c3⟩ := below b i2 h2 2 c2
  simp only [e1, e2, e3, Option.bind_some]
  by_cases hx : x < 6
  · rw [if_pos hx]
    obtain ⟨u, i4, h4, e4, u0, u1, _, c4⟩ := below b i3 h3 6 c3
    rw [e4]
    simp only [Option.bind_some]
    by_cases hu : u = 0
    · rw [if_pos hu]
      exact ⟨⟨x, y, wrap64 (z * 151), ⟨u, 0, 0⟩⟩, i4, h4, rfl, u0, c4⟩
    · rw [if_neg hu]
      by_cases hu2 : u = 2
      · rw [if_pos hu2]
        exact ⟨⟨x, y, wrap64 (z * 151), ⟨u, 0, 0⟩⟩, i4, h4, rfl, u0, c4⟩
      · rw [if_neg hu2]
        obtain ⟨v, i5, h5, e5, v0, v1, _, c5⟩ := below b i4 h4 3 c4
        rw [e5]
        exact ⟨⟨x, y, wrap64 (z * 151), ⟨u, v, 0⟩⟩, i5, h5, rfl, u0, c5⟩
  · rw [if_neg hx]
    exact ⟨⟨x, y, wrap64 (z * 151), ⟨0, 0, 0⟩⟩, i3, h3, rfl, Int.le_refl _, c3⟩
theorem l15_ok {x : List S43} (f : S43) (h : okB x = true) (hl : x.length < 2500) : (if hasB x f = true then x else putB x f) = addB x f := by
  have e : ¬ ((x.length : Int) ≥ 2500) := by omega
  unfold addB
  rw [if_pos h, if_neg e]
theorem facts_l0 (b : List Int) (add_ok : ∀ (x : List S43) (f : S43), okB x = true → okB (addB x f) = true) (d : Nat) : ∀ (k : Nat) (l : List S43) (i h : Int), Cur b i → okB l = true → l.length + d ≤ 100 → 1000 + d < k →
    ∃ (l' : List S43) (i' h' : Int), spec_l15Facts.l0 k l (d : Int) b i h = some (l', i', h') ∧ l'.length ≤ 100 ∧ Cur b i' := by
  induction d with
  | zero =>
    intro k l i h hc hl hn hk
    obtain ⟨k, rfl⟩ := succ_of (show 0 < k by omega)
    simp only [spec_l15Facts.l0]
    rw [if_neg (by omega)]
    by_cases h1 : (l.length : Int) > 1
    · rw [if_pos h1]
      obtain ⟨x, i1, g1, e1, c1⟩ := once b i h 12 hc
      rw [e1]
      simp only [Option.bind_some]
      by_cases hx : x = true
      · rw [if_pos hx, if_pos (by omega), if_pos (by omega)]
        exact ⟨_, _, _, rfl, by simp; omega, c1⟩
      · rw [if_neg hx]
        exact ⟨_, _, _, rfl, by omega, c1⟩
    · rw [if_neg h1]
      exact ⟨_, _, _, rfl, by omega, hc⟩
  | succ d ih =>
    intro k l i h hc hl hn hk
    obtain ⟨k, rfl⟩ := succ_of (show 0 < k by omega)
    simp only [spec_l15Facts.l0]
    obtain ⟨f, i1, g1, e1, _, c1⟩ := fact b i h hc
    rw [if_pos (by omega), e1]
    simp only [Option.bind_some]
    rw [spec15Add l f (by omega) hl k (by omega)]
    simp only [Option.bind_some]
    have hz := addB_len l f
    rw [l15_ok f hl (by omega), w64 (by omega) (by omega), show ((d + 1 : Nat) : Int) - 1 = (d : Int) by omega]
    exact ih k (addB l f) i1 g1 c1 (add_ok l f hl) (by omega) (by omega)
theorem drawFacts (b : List Int) (hb : b.length ≤ 1048576) (add_ok : ∀ (x : List S43) (f : S43), okB x = true → okB (addB x f) = true) (k : Nat) (hk : 1048600 ≤ k) :
    ∃ (l : List S43) (f : S43), spec_DrawFactAdd.f k b = some (l, f.f0, f.f1, f.f2, f.f3.f0, f.f3.f1, f.f3.f2) ∧ l.length ≤ 100 ∧ 0 ≤ f.f3.f0 := by
  unfold spec_DrawFactAdd.f
  obtain ⟨h0, e0, c0⟩ := new b hb k (by omega)
  rw [e0]
  simp only [Option.bind_some]
  unfold spec_l15Facts.f
  obtain ⟨n, i1, h1, e1, n0, n1, _, c1⟩ := below b 0 h0 20 c0
  rw [e1]
  simp only [Option.bind_some]
  obtain ⟨m, rfl⟩ : ∃ m : Nat, n = (m : Int) := ⟨n.toNat, by omega⟩
  obtain ⟨l, i2, h2, e2, hl, c2⟩ := facts_l0 b add_ok m k [] i1 h1 c1 rfl (by simp; omega) (by omega)
  rw [e2]
  simp only [Option.bind_some]
  obtain ⟨f, i3, h3, e3, f0, _⟩ := fact b i2 h2 c2
  rw [e3]
  exact ⟨l, f, rfl, hl, f0⟩
end Go.Proofs.Ytdjomoogldkpfaa.UDraw
end
section
namespace Go.Proofs.Ytdjomoogldkpfaa.Pure
open Go.RowKit Go.Proofs.Ytdjomoogldkpfaa.PAll Go.Proofs.YtdjomoogldkpfaaW.PrintWords Go.Proofs.YtdjomoogldkpfaaW.PrintLast Go.Proofs.Ytdjomoogldkpfaa.UBase Go.Proofs.Ytdjomoogldkpfaa.UDraw Go.Proofs.Ytdjomoogldkpfaa.UFacts
def isFrom (v : List S41) (g : S41) : Nat → Nat → Bool
  | 0, _ => false
  | d + 1, i => (((v.getD i z41).f0) == g.f0 && (((v.getD i z41).f1) == g.f1 && (((v.getD i z41).f2) == g.f2))) || isFrom v g d (i + 1)
theorem isFrom_true (v : List S41) (g : S41) (d : Nat) : ∀ i j, i ≤ j → j < i + d → v.getD j z41 = g → isFrom v g d i = true := by
  induction d with
  | zero => intro i j h1 h2; omega
  | succ d ih =>
    intro i j h1 h2 he
    simp only [isFrom]
    by_cases hi : i = j
    · subst hi
      rw [he]
      simp
    · rw [ih (i + 1) j (by omega) (by omega) he, Bool.or_true]
theorem rd_abs (v : List S41) (i : Nat) : rd_T41 v (i : Int) = v.getD i z41 := by
  unfold rd_T41
  rw [Int.toNat_natCast]
theorem last_l1 (x : List S43) (f : S43) (v : List S41) (hx : x.length ≤ 1000000) (hv : v.length ≤ 1000000) (hall : ∀ j, j < v.length → okB x = true ∧ hasB x ⟨f.f0, f.f1, f.f2, v.getD j z41⟩ = true) (d : Nat) : ∀ (k i : Nat) (b : Bool), i + d = v.length → 1000100 + d < k →
    laws_FnFacts.l1 k x v b i f.f0 f.f1 f.f2 f.f3.f0 f.f3.f1 f.f3.f2 = some (b || isFrom v f.f3 d i) := by
  induction d with
  | zero =>
    intro k i b hi hk
    obtain ⟨k, rfl⟩ := succ_of (show 0 < k by omega)
    simp only [laws_FnFacts.l1, isFrom]
    rw [if_neg (by omega), Bool.or_false]
  | succ d ih =>
    intro k i b hi hk
    obtain ⟨k, rfl⟩ := succ_of (show 0 < k by omega)
    obtain ⟨ho, hh⟩ := hall i (by omega)
    have hq : impl_FactHas.f k x f.f0 f.f1 f.f2 (v.getD i z41).f0 (v.getD i z41).f1 (v.getD i z41).f2 = some true := by
      have := implHas x ⟨f.f0, f.f1, f.f2, v.getD i z41⟩ (by omega) k (by omega)
      rw [ho, hh] at this
      exact this
    simp only [laws_FnFacts.l1, isFrom, rd_abs]
    rw [if_pos (by omega), w64 (by omega) (by omega), hq]
    simp only [Option.bind_some, if_true]
    have r1 := ih k (i + 1) true (by omega) (by omega)
    have r2 := ih k (i + 1) (((v.getD i z41).f0) == f.f3.f0 && (((v.getD i z41).f1) == f.f3.f1 && (((v.getD i z41).f2) == f.f3.f2))) (by omega) (by omega)
    cases b
    · rw [if_neg (by simp), if_pos (by omega), Bool.false_or]
      exact r2
    · rw [if_pos rfl, if_pos (by omega), Bool.true_or]
      exact r1
theorem all_l0 {l : List S43} (f : S43) (h : okB l = true) (hl : l.length ≤ 100) (h0 : 0 ≤ f.f3.f0) (d : Nat) : ∀ (k i : Nat), i + d = l.length → 1000400 + 2 * d < k →
    laws_FnFacts.l0 k l (addB l f) i f.f0 f.f1 f.f2 f.f3.f0 f.f3.f1 f.f3.f2 = some true := by
  have ha := add_ok f h
  have hal := addB_len l f
  induction d with
  | zero =>
    intro k i hi hk
    obtain ⟨k, rfl⟩ := succ_of (show 0 < k by omega)
    simp only [laws_FnFacts.l0]
    rw [if_neg (by omega), implAbs _ f.f0 f.f1 f.f2 (by omega) k (by omega)]
    simp only [Option.bind_some]
    have hv := absB_len (addB l f) f.f0 f.f1 f.f2
    have e : absB (addB l f) f.f0 f.f1 f.f2 = absFrom (addB l f) f.f0 f.f1 f.f2 (addB l f).length 0 := by unfold absB; rw [if_pos ha]
    have hall : ∀ j, j < (absB (addB l f) f.f0 f.f1 f.f2).length → okB (addB l f) = true ∧ hasB (addB l f) ⟨f.f0, f.f1, f.f2, (absB (addB l f) f.f0 f.f1 f.f2).getD j z41⟩ = true := by
      intro j hj
      have hm : (absB (addB l f) f.f0 f.f1 f.f2).getD j z41 ∈ absB (addB l f) f.f0 f.f1 f.f2 := by
        rw [List.getD_eq_getElem?_getD, List.getElem?_eq_getElem hj]
        exact List.getElem_mem hj
      rw [e] at hm
      obtain ⟨q, _, hq, hk', hq2⟩ := absFrom_mem _ _ _ _ _ _ _ hm
      refine ⟨ha, (has_iff ha _).2 ⟨q, by omega, ?_⟩⟩
      rw [e]
      obtain ⟨k0, k1, k2⟩ := hk'
      exact ext43 k0 k1 k2 (congrArg (·.f0) hq2) (congrArg (·.f1) hq2) (congrArg (·.f2) hq2)
    have r := last_l1 (addB l f) f (absB (addB l f) f.f0 f.f1 f.f2) (by omega) (by omega) hall (absB (addB l f) f.f0 f.f1 f.f2).length k 0 false (by omega) (by omega)
    refine Eq.trans r (congrArg some ?_)
    rw [Bool.false_or]
    obtain ⟨q, hq, hf⟩ := (has_iff ha f).1 (add_has f h (by omega))
    have hm : f.f3 ∈ absB (addB l f) f.f0 f.f1 f.f2 := by
      rw [e]
      have := mem_absFrom (addB l f) f.f0 f.f1 f.f2 q (by rw [hf]; exact ⟨rfl, rfl, rfl⟩) (by rw [hf]; exact h0) (addB l f).length 0 (by omega) (by omega)
      rw [hf] at this
      exact this
    obtain ⟨j, hj, hjv⟩ := List.getElem_of_mem hm
    exact isFrom_true _ _ _ 0 j (by omega) (by omega) (by rw [List.getD_eq_getElem?_getD, List.getElem?_eq_getElem hj]; exact hjv)
  | succ d ih =>
    intro k i hi hk
    obtain ⟨k, rfl⟩ : ∃ m, k = m + 2 := ⟨k - 2, by omega⟩
    have hn := ih k (i + 1) (by omega) (by omega)
    have hs : laws_FnFacts.j2 (k + 1) l (addB l f) i false f.f0 f.f1 f.f2 f.f3.f0 f.f3.f1 f.f3.f2 = some true := by
      simp only [laws_FnFacts.j2]
      rw [if_neg (by simp), w64 (by omega) (by omega)]
      exact hn
    have hq : impl_FactHas.f (k + 1) (addB l f) (l.getD i z43).f0 (l.getD i z43).f1 (l.getD i z43).f2 (l.getD i z43).f3.f0 (l.getD i z43).f3.f1 (l.getD i z43).f3.f2 = some true := by
      have := implHas (addB l f) (l.getD i z43) (by omega) (k + 1) (by omega)
      rw [ha, add_old f h i (by omega)] at this
      exact this
    have hself : lessB (l.getD i z43) (l.getD i z43) = false := by
      cases hc : lessB (l.getD i z43) (l.getD i z43) with
      | false => rfl
      | true => exact absurd ((less_iff _ _).1 hc) (less_irrefl _)
    simp only [laws_FnFacts.l0, rd_fact]
    rw [if_pos (by omega), if_pos (by omega), hq]
    simp only [Option.bind_some, if_true]
    rw [impl_less (k + 1) (by omega), impl_less (k + 1) (by omega) f, impl_less (k + 1) (by omega) (l.getD i z43) f, hself]
    simp only [Option.bind_some, Bool.false_eq_true, if_false]
    cases h1 : lessB f (l.getD i z43)
    · rw [if_neg (by simp)]
      exact hs
    · rw [if_pos rfl]
      cases h2 : lessB (l.getD i z43) f
      · exact hs
      · exact absurd (less_trans ((less_iff _ _).1 h1) ((less_iff _ _).1 h2)) (less_irrefl _)
theorem facts_j0 {l : List S43} (f : S43) (h : okB l = true) (hl : l.length ≤ 100) (h0 : 0 ≤ f.f3.f0) (k : Nat) (hk : 1100000 ≤ k) :
    laws_FnFacts.j0 k l (addB l f) false f.f0 f.f1 f.f2 f.f3.f0 f.f3.f1 f.f3.f2 = some true := by
  obtain ⟨k, rfl⟩ := succ_of (show 0 < k by omega)
  simp only [laws_FnFacts.j0]
  rw [if_neg (by simp)]
  exact all_l0 f h hl h0 l.length k 0 (by omega) (by omega)
theorem add_not {l : List S43} (f : S43) (h : ¬ okB l = true) : addB l f = l := by
  unfold addB
  rw [if_neg h]
theorem add_put {l : List S43} (f : S43) (h : okB l = true) (hl : l.length ≤ 100) (hx : ¬ hasB l f = true) : addB l f = putB l f := by
  have hn : ¬ ((l.length : Int) ≥ 2500) := by omega
  unfold addB
  rw [if_pos h, if_neg hn, if_neg hx]
theorem add_same {l : List S43} (f : S43) (h : okB l = true) (hl : l.length ≤ 100) (hx : hasB l f = true) : addB l f = l := by
  have hn : ¬ ((l.length : Int) ≥ 2500) := by omega
  unfold addB
  rw [if_pos h, if_neg hn, if_pos hx]
theorem FnFacts : laws_FnFacts.Pure := by
  intro b _ _ _
  refine ⟨1200000, ?_⟩
  generalize hK : 1200000 = K
  have hK' : 1200000 ≤ K := by omega
  clear hK
  unfold laws_FnFacts.f
  rw [big]
  simp only [Option.bind_some]
  by_cases hb : (b.length : Int) > 1048576
  · rw [decide_eq_true hb, if_pos rfl]
  · rw [decide_eq_false hb, if_neg (by simp)]
    obtain ⟨l, f, e, hl, h0⟩ := drawFacts b (by omega) (fun x f h => add_ok f h) K (by omega)
    rw [e]
    simp only [Option.bind_some]
    have hal := addB_len l f
    have qa := implAdd l f (by omega) K (by omega)
    have qo := specOk l (by omega) K (by omega)
    have qo2 := specOk (addB l f) (by omega) K (by omega)
    have qh := implHas l f (by omega) K (by omega)
    have qh2 := implHas (addB l f) f (by omega) K (by omega)
    have qs := same_refl l (by omega) K (by omega)
    by_cases ho : okB l = true
    · have jf := facts_j0 f ho hl h0 K (by omega)
      have ha := add_ok f ho
      have hh := add_has f ho (by omega)
      rw [ho] at qo qh
      rw [ha] at qo2
      rw [ha, hh] at qh2
      by_cases hx : hasB l f = true
      · have ea := add_same f ho hl hx
        rw [hx] at qh
        rw [ea] at qa qh2 qo2 jf
        have en : ¬ (l.length : Int) = wrap64 ((l.length : Int) + 1) := by
          rw [w64 (by omega) (by omega)]
          omega
        simp only [qa, qo, qh, qs, Option.bind_some, if_true, Bool.and_self, Bool.not_true, if_neg en]
        exact jf
      · have ea := add_put f ho hl hx
        have hxf : hasB l f = false := by simpa using hx
        rw [hxf] at qh
        have el : ((addB l f).length : Int) = wrap64 ((l.length : Int) + 1) := by
          have := put_len l f ho
          rw [w64 (by omega) (by omega), ea]
          omega
        simp only [qa, qo, qo2, qh, qh2, Option.bind_some, if_true, Bool.and_self, Bool.and_false, if_pos el, Bool.false_eq_true, if_false]
        exact jf
    · have ea := add_not f ho
      have hof : okB l = false := by simpa using ho
      rw [hof] at qo qh
      rw [ea] at qa
      simp only [qa, qo, qh, qs, Option.bind_some, if_true, Bool.false_and, Bool.false_eq_true, if_false, Bool.not_false]
end Go.Proofs.Ytdjomoogldkpfaa.Pure
end
