/- The machine, neutral: a whole run, and what more fuel does. -/
import Derived.Test.YtifomiglajcanaaGreatDoorZUvBinds
import Derived.Test.YtifomiglajcanaaGreatDoorEvPure
set_option linter.unusedSimpArgs false
set_option linter.unusedVariables false
namespace Go.Proofs.YtifomiglajcanaaGreatDoorE
open Go.Ev Go.RowKit
set_option linter.unusedVariables false
set_option linter.unusedSimpArgs false
def anyT (u : List ByteArray) (t : List UInt8) : Bool := u.any fun x => x.toList == t
theorem anyT_app (a b : List ByteArray) (t : List UInt8) : anyT (a ++ b) t = (anyT a t || anyT b t) := by simp [anyT]
/-! ### the free names -/
def freeFrom (l : List Nd) : Nat → Nat → List ByteArray → List ByteArray
  | 0, _, y => y
  | d + 1, i, y => freeFrom l d (i + 1) (if (nd l i).Kind = 1 ∧ (binderB l i).Node < 0 then y ++ [(nd l i).Name] else y)
theorem free_len (l : List Nd) : ∀ (d i : Nat) (y : List ByteArray), (freeFrom l d i y).length ≤ y.length + d
  | 0, i, y => by simp [freeFrom]
  | d + 1, i, y => by
    rw [freeFrom]
    have := free_len l d (i + 1) (if (nd l i).Kind = 1 ∧ (binderB l i).Node < 0 then y ++ [(nd l i).Name] else y)
    split at this <;> split <;> simp_all <;> omega
theorem impl_free_l0 {l : List Nd} (hl : l.length ≤ 150) (K : Nat) (d : Nat) : ∀ (k i : Nat) (y : List ByteArray), i + d = l.length → d < k → y.length ≤ i → impl_FreeNames.l0 l (bindersL l) K k i y = some (freeFrom l d i y) := by
  induction d with
  | zero =>
    intro k i y hi hk hy
    obtain ⟨k, rfl⟩ := succ_of (show 0 < k by omega)
    rw [impl_FreeNames.l0, if_neg (by rw [bindersL_len]; omega), freeFrom]
  | succ d ih =>
    intro k i y hi hk hy
    obtain ⟨k, rfl⟩ := succ_of (show 0 < k by omega)
    rw [impl_FreeNames.l0, if_pos (by rw [bindersL_len]; omega)]
    simp only [jn]
    rw [at_binders l i (by omega), Option.bind_some, at_nd l i (by omega), Option.bind_some, w64_of (by omega) (by omega), show ((i : Int) + 1) = ((i + 1 : Nat) : Int) by omega, freeFrom]
    by_cases h1 : (nd l i).Kind = 1
    · rw [if_pos h1]
      by_cases h2 : (binderB l i).Node < 0
      · rw [decide_eq_true h2, if_pos rfl, Option.bind_some, gd_pos (by omega), if_pos ⟨h1, h2⟩]
        exact ih k (i + 1) _ (by omega) (by omega) (by simp; omega)
      · rw [decide_eq_false h2, if_neg (by simp), if_neg (fun q => h2 q.2)]
        exact ih k (i + 1) y (by omega) (by omega) (by omega)
    · rw [if_neg h1, if_neg (by simp), if_neg (fun q => h1 q.1)]
      exact ih k (i + 1) y (by omega) (by omega) (by omega)
theorem sortS_any (u : List ByteArray) (t : List UInt8) : anyT (sortS u) t = anyT u t := by
  have hm : ∀ x, x ∈ sortS u ↔ x ∈ u := fun x => by
    unfold sortS
    simp only [List.mem_map, List.mem_mergeSort]
    constructor
    · rintro ⟨y, ⟨z, hz, rfl⟩, rfl⟩
      have : (⟨z.data.toList.toArray⟩ : ByteArray) = z := by simp
      rw [this]; exact hz
    · intro hx
      exact ⟨_, ⟨x, hx, rfl⟩, by simp⟩
  unfold anyT
  rw [Bool.eq_iff_iff, List.any_eq_true, List.any_eq_true]
  exact ⟨fun ⟨x, hx, e⟩ => ⟨x, (hm x).1 hx, e⟩, fun ⟨x, hx, e⟩ => ⟨x, (hm x).2 hx, e⟩⟩
theorem sorted_l0 (y : List ByteArray) (hy : y.length ≤ 1000) (K : Nat) (r : List ByteArray) : ∀ (k : Nat) (p v : List ByteArray), p ++ r = y → r.length < k → v.length ≤ p.length → (∀ t, anyT v t = anyT p t) → ∃ o, impl_sorted.l0 y K k p.length v = some o ∧ o.length ≤ y.length ∧ ∀ t, anyT o t = anyT y t := by
  induction r with
  | nil =>
    intro k p v hp hk hv ht
    obtain ⟨k, rfl⟩ := succ_of hk
    rw [List.append_nil] at hp
    subst hp
    exact ⟨v, by rw [impl_sorted.l0, if_neg (by omega)], hv, ht⟩
  | cons x r ih =>
    intro k p v hp hk hv ht
    obtain ⟨k, rfl⟩ := succ_of hk
    simp only [List.length_cons] at hk
    have hyl : y.length = p.length + (r.length + 1) := by rw [← hp]; simp
    have hat : at_ y (p.length : Int) = some x := by rw [← hp]; exact at_mid p r x
    rw [impl_sorted.l0, if_pos (by omega)]
    simp only [jn]
    rw [hat, Option.bind_some, w64_of (x := (p.length : Int) + 1) (by omega) (by omega)]
    have e1 : ((p.length : Int) + 1) = ((p ++ [x]).length : Int) := by simp
    have new : ∃ o, impl_sorted.l0 y K k ((p.length : Int) + 1) (v ++ [x]) = some o ∧ o.length ≤ y.length ∧ ∀ t, anyT o t = anyT y t := by
      rw [e1]
      exact ih k (p ++ [x]) (v ++ [x]) (by rw [← hp]; simp) (by omega) (by simp; omega) fun t => by rw [anyT_app, anyT_app, ht]
    by_cases h0 : (p.length : Int) = 0
    · rw [if_pos h0, if_pos trivial, gd_pos (by omega)]
      exact new
    · rw [if_neg h0]
      have hpn : p ≠ [] := fun e => h0 (by rw [e]; rfl)
      obtain ⟨q, z, rfl⟩ : ∃ q z, p = q ++ [z] := ⟨p.dropLast, p.getLast hpn, (List.dropLast_concat_getLast hpn).symm⟩
      have hat2 : at_ y (w64 (((q ++ [z]).length : Int) - 1)) = some z := by
        rw [w64_of (by omega) (by omega), show (((q ++ [z]).length : Int) - 1) = (q.length : Int) by simp, ← hp, List.append_assoc]
        exact at_mid q (x :: r) z
      rw [hat2, Option.bind_some]
      by_cases hz : (z.toList == x.toList) = true
      · rw [hz]
        simp only [Bool.not_true, Bool.false_eq_true, if_false]
        rw [e1]
        refine ih k (q ++ [z] ++ [x]) v (by rw [← hp]; simp) (by omega) (by simp at hv ⊢; omega) fun t => ?_
        rw [ht, anyT_app (q ++ [z]) [x], anyT_app q [z]]
        have : anyT [x] t = anyT [z] t := by simp [anyT, eq_of_beq hz]
        rw [this]
        cases anyT q t <;> cases anyT [z] t <;> rfl
      · rw [Bool.eq_false_iff.2 hz]
        simp only [Bool.not_false, if_true]
        rw [gd_pos (by omega)]
        exact new
theorem impl_free {l : List Nd} (h : nodesOkB l = true) (hsm : ∀ n ∈ l, small n) (K : Nat) (hK : big ≤ K) : ∃ o, impl_FreeNames.f K l = some o ∧ o.length ≤ 150 ∧ ∀ t, anyT o t = anyT (freeFrom l l.length 0 []) t := by
  have hlen := ok_len h
  have hK' := hK
  unfold big at hK'
  unfold impl_FreeNames.f
  rw [impl_nodesOk l (by omega) hsm K hK, Option.bind_some, h]
  simp only [Bool.not_true, Bool.false_eq_true, if_false, jn]
  have q := impl_free_l0 hlen.2 K l.length K 0 [] (by omega) (by omega) (by simp)
  rw [show ((0 : Nat) : Int) = 0 from rfl] at q
  rw [impl_bindersL h K (by omega), Option.bind_some, q, Option.bind_some]
  generalize hW : freeFrom l l.length 0 [] = W
  have hWl : W.length ≤ 150 := by have := free_len l l.length 0 []; rw [hW] at this; simp at this; omega
  unfold impl_sorted.f sort_Strings.f
  rw [if_pos (by omega), Option.bind_some, gd_pos (by rw [sortS_len])]
  obtain ⟨o, e, h1, h2⟩ := sorted_l0 (sortS W) (by rw [sortS_len]; omega) K (sortS W) K [] [] (by simp) (by rw [sortS_len]; omega) (by simp) (fun t => rfl)
  rw [show (([] : List ByteArray).length : Int) = 0 from rfl] at e
  simp only [jn]
  rw [e]
  simp only [Option.bind_some]
  rw [gd_pos (by rw [sortS_len])]
  exact ⟨o, rfl, by rw [sortS_len] at h1; omega, fun t => by rw [h2, sortS_any]⟩
theorem l6_l0 (s : ByteArray) (y : List ByteArray) (hy : y.length ≤ 1000) (K : Nat) (r : List ByteArray) : ∀ (k : Nat) (p v : List ByteArray) (b : Bool), p ++ r = y → r.length < k → v.length ≤ p.length + 1 → (b = false → v.length ≤ p.length) → (∀ t, anyT v t = (anyT p t || (b && s.toList == t))) →
    ∃ o, spec_l6Sort.l0 y s K k b p.length v = some o ∧ ((o = .inl y ∧ anyT y s.toList = true) ∨ ∃ b' v', o = .inr (b', v') ∧ v'.length ≤ y.length + 1 ∧ (b' = false → v'.length ≤ y.length) ∧ ∀ t, anyT v' t = (anyT y t || (b' && s.toList == t))) := by
  induction r with
  | nil =>
    intro k p v b hp hk hv hv2 ht
    obtain ⟨k, rfl⟩ := succ_of hk
    rw [List.append_nil] at hp
    subst hp
    exact ⟨.inr (b, v), by rw [spec_l6Sort.l0, if_neg (by omega)], .inr ⟨b, v, rfl, hv, hv2, ht⟩⟩
  | cons x r ih =>
    intro k p v b hp hk hv hv2 ht
    obtain ⟨k, rfl⟩ := succ_of hk
    simp only [List.length_cons] at hk
    have hyl : y.length = p.length + (r.length + 1) := by rw [← hp]; simp
    have hat : at_ y (p.length : Int) = some x := by rw [← hp]; exact at_mid p r x
    rw [spec_l6Sort.l0, if_pos (by omega), hat, Option.bind_some]
    by_cases hx : (x.toList == s.toList) = true
    · rw [if_pos hx]
      refine ⟨_, rfl, .inl ⟨rfl, ?_⟩⟩
      rw [← hp]
      unfold anyT
      rw [List.any_append, List.any_cons, hx]; simp
    · rw [if_neg hx]
      simp only [jn]
      rw [w64_of (by omega) (by omega)]
      have e1 : ((p.length : Int) + 1) = ((p ++ [x]).length : Int) := by simp
      have same : b = b → ∃ o, (gd ((v.length + 1) * 16 ≤ 140737488355328) (spec_l6Sort.l0 y s K k b ((p.length : Int) + 1) (v ++ [x]))) = some o ∧ ((o = .inl y ∧ anyT y s.toList = true) ∨ ∃ b' v', o = .inr (b', v') ∧ v'.length ≤ y.length + 1 ∧ (b' = false → v'.length ≤ y.length) ∧ ∀ t, anyT v' t = (anyT y t || (b' && s.toList == t))) := fun _ => by
        rw [gd_pos (by omega), e1]
        refine ih k (p ++ [x]) (v ++ [x]) b (by rw [← hp]; simp) (by omega) (by simp; omega) (fun hb => by have := hv2 hb; simp; omega) fun t => ?_
        rw [anyT_app, anyT_app, ht]
        cases anyT p t <;> cases anyT [x] t <;> cases b <;> simp
      cases b with
      | true =>
        simp only [Bool.not_true, Bool.false_eq_true, if_false]
        exact same rfl
      | false =>
        simp only [Bool.not_false, if_true]
        have hvp := hv2 rfl
        by_cases hc : (!(Op.bytesLess x.toList s.toList || x.toList == s.toList)) = true
        · rw [if_pos hc, gd_pos (by omega), gd_pos (by simp; omega), e1]
          refine ih k (p ++ [x]) (v ++ [s] ++ [x]) true (by rw [← hp]; simp) (by omega) (by simp; omega) (fun hb => by cases hb) fun t => ?_
          rw [anyT_app, anyT_app v [s], anyT_app p [x], ht]
          have : anyT [s] t = (s.toList == t) := by simp [anyT]
          rw [this]
          cases anyT p t <;> cases anyT [x] t <;> cases (s.toList == t) <;> rfl
        · rw [if_neg hc]
          exact same rfl
theorem spec_l6 (s : ByteArray) (y : List ByteArray) (hy : y.length ≤ 900) (K : Nat) (hK : 2000 ≤ K) : ∃ o, spec_l6Sort.f K y s = some o ∧ o.length ≤ y.length + 1 ∧ ∀ t, anyT o t = (anyT y t || s.toList == t) := by
  unfold spec_l6Sort.f
  simp only [jn]
  obtain ⟨o, e, h⟩ := l6_l0 s y (by omega) K y K [] [] false (by simp) (by omega) (by simp) (fun _ => by simp) (fun t => rfl)
  rw [show (([] : List ByteArray).length : Int) = 0 from rfl] at e
  rw [e]
  rcases h with ⟨rfl, h⟩ | ⟨b, v, rfl, h1, h2, h3⟩
  · refine ⟨y, rfl, by omega, fun t => ?_⟩
    by_cases ht : (s.toList == t) = true
    · rw [← eq_of_beq ht, h]; simp
    · rw [Bool.eq_false_iff.2 ht]; simp
  · cases b with
    | true =>
      refine ⟨v, rfl, h1, fun t => by rw [h3]; rfl⟩
    | false =>
      have := h2 rfl
      refine ⟨v ++ [s], ?_, by simp; omega, fun t => by rw [anyT_app, h3]; simp [anyT]⟩
      show (if (!false) = true then gd ((v.length + 1) * 16 ≤ 140737488355328) (some (v ++ [s])) else some v) = some (v ++ [s])
      simp only [Bool.not_false, if_true]
      rw [gd_pos (by omega)]
theorem spec_free_l0 {l : List Nd} (h : nodesOkB l = true) (hsm : ∀ n ∈ l, small n) (K : Nat) (hK : big ≤ K) (d : Nat) : ∀ (k i : Nat) (v y : List ByteArray), i + d = l.length → d < k → v.length ≤ i → (∀ t, anyT v t = anyT y t) → ∃ o, spec_FreeNames.l0 l K k v i = some o ∧ o.length ≤ l.length ∧ ∀ t, anyT o t = anyT (freeFrom l d i y) t := by
  have hlen := ok_len h
  have hK' := hK
  unfold big at hK'
  induction d with
  | zero =>
    intro k i v y hi hk hv ht
    obtain ⟨k, rfl⟩ := succ_of (show 0 < k by omega)
    rw [spec_FreeNames.l0]
    simp only [jn]
    rw [if_neg (by omega), if_neg (by simp)]
    exact ⟨v, rfl, by omega, ht⟩
  | succ d ih =>
    intro k i v y hi hk hv ht
    obtain ⟨k, rfl⟩ := succ_of (show 0 < k by omega)
    rw [spec_FreeNames.l0]
    simp only [jn]
    rw [if_pos (by omega), spec_nodesOk l (by omega) hsm K hK, Option.bind_some, h, if_pos rfl, at_nd l i (by omega), Option.bind_some, w64_of (by omega) (by omega), show ((i : Int) + 1) = ((i + 1 : Nat) : Int) by omega, freeFrom]
    by_cases h1 : (nd l i).Kind = 1
    · rw [if_pos h1, spec_binder h hsm i (by omega) K hK, Option.bind_some]
      by_cases h2 : (binderB l i).Node < 0
      · rw [decide_eq_true h2, if_pos rfl, Option.bind_some, if_pos ⟨h1, h2⟩]
        obtain ⟨o, e, b1, b2⟩ := spec_l6 (nd l i).Name v (by omega) K (by omega)
        rw [e, Option.bind_some]
        exact ih k (i + 1) o _ (by omega) (by omega) (by omega) fun t => by rw [b2, ht, anyT_app]; simp [anyT]
      · rw [decide_eq_false h2, if_neg (by simp), if_neg (fun q => h2 q.2)]
        exact ih k (i + 1) v y (by omega) (by omega) (by omega) ht
    · rw [if_neg h1, if_neg (by simp), if_neg (fun q => h1 q.1)]
      exact ih k (i + 1) v y (by omega) (by omega) (by omega) ht
theorem spec_free {l : List Nd} (h : nodesOkB l = true) (hsm : ∀ n ∈ l, small n) (K : Nat) (hK : big ≤ K) : ∃ o, spec_FreeNames.f K l = some o ∧ o.length ≤ 150 ∧ ∀ t, anyT o t = anyT (freeFrom l l.length 0 []) t := by
  have hlen := ok_len h
  have hK' := hK
  unfold big at hK'
  obtain ⟨o, e, b1, b2⟩ := spec_free_l0 h hsm K hK l.length K 0 [] [] (by omega) (by omega) (by simp) (fun t => rfl)
  unfold spec_FreeNames.f
  simp only [jn]
  rw [show ((0 : Nat) : Int) = 0 from rfl] at e
  rw [e]
  exact ⟨o, rfl, by omega, b2⟩
end Go.Proofs.YtifomiglajcanaaGreatDoorE

namespace Go.Proofs.YtifomiglajcanaaGreatDoorE
open Go.Ev Go.RowKit
set_option linter.unusedVariables false
set_option linter.unusedSimpArgs false
abbrev Vl := impl_Val
abbrev Cell := impl_EnvCell
abbrev Hs := impl_Heap
abbrev Fr := impl_frame
abbrev Evt := impl_Event
def v0 : Vl := ⟨0, 0⟩
def cE (E : List Cell) (i : Int) : Cell := E.getD i.toNat ⟨0, 0, v0, 0⟩
def cC (C : List impl_Clo) (i : Int) : impl_Clo := C.getD i.toNat ⟨0, 0⟩
def cT (C : List impl_Two) (i : Int) : impl_Two := C.getD i.toNat ⟨v0, v0⟩
def cR (C : List Vl) (i : Int) : Vl := C.getD i.toNat v0
theorem at_getI {α : Type} (l : List α) (d : α) (i : Int) (h0 : 0 ≤ i) (h : i < l.length) : at_ l i = some (l.getD i.toNat d) := by
  have := at_getD l d i.toNat (by omega)
  rwa [show ((i.toNat : Nat) : Int) = i by omega] at this
theorem at_cE (E : List Cell) (i : Int) (h0 : 0 ≤ i) (h : i < E.length) : at_ E i = some (cE E i) := at_getI E _ i h0 h
theorem at_cC (C : List impl_Clo) (i : Int) (h0 : 0 ≤ i) (h : i < C.length) : at_ C i = some (cC C i) := at_getI C _ i h0 h
theorem at_cT (C : List impl_Two) (i : Int) (h0 : 0 ≤ i) (h : i < C.length) : at_ C i = some (cT C i) := at_getI C _ i h0 h
theorem at_cR (C : List Vl) (i : Int) (h0 : 0 ≤ i) (h : i < C.length) : at_ C i = some (cR C i) := at_getI C _ i h0 h
theorem at_ndZ (l : List Nd) (i : Int) (h0 : 0 ≤ i) (h : i < l.length) : at_ l i = some (nd l i.toNat) := at_getI l _ i h0 h
theorem cE_app (E F : List Cell) (i : Int) (h : i < E.length) (h0 : 0 ≤ i) : cE (E ++ F) i = cE E i := getD_left _ _ _ _ (by omega)
theorem cE_new (E : List Cell) (c : Cell) : cE (E ++ [c]) (E.length : Int) = c := by
  unfold cE; rw [Int.toNat_natCast, getD_right _ _ _ _ (Nat.le_refl _)]; simp
theorem cC_app (E F : List impl_Clo) (i : Int) (h : i < E.length) (h0 : 0 ≤ i) : cC (E ++ F) i = cC E i := getD_left _ _ _ _ (by omega)
theorem cC_new (E : List impl_Clo) (c : impl_Clo) : cC (E ++ [c]) (E.length : Int) = c := by
  unfold cC; rw [Int.toNat_natCast, getD_right _ _ _ _ (Nat.le_refl _)]; simp
theorem cT_app (E F : List impl_Two) (i : Int) (h : i < E.length) (h0 : 0 ≤ i) : cT (E ++ F) i = cT E i := getD_left _ _ _ _ (by omega)
theorem cT_new (E : List impl_Two) (c : impl_Two) : cT (E ++ [c]) (E.length : Int) = c := by
  unfold cT; rw [Int.toNat_natCast, getD_right _ _ _ _ (Nat.le_refl _)]; simp
theorem cR_app (E F : List Vl) (i : Int) (h : i < E.length) (h0 : 0 ≤ i) : cR (E ++ F) i = cR E i := getD_left _ _ _ _ (by omega)
theorem cR_new (E : List Vl) (c : Vl) : cR (E ++ [c]) (E.length : Int) = c := by
  unfold cR; rw [Int.toNat_natCast, getD_right _ _ _ _ (Nat.le_refl _)]; simp
/-! ### a name looked up -/
def lk (E : List Cell) (b : Bi) : Nat → Int → Option Vl
  | 0, _ => none
  | d + 1, e => if 0 ≤ e then (if (cE E e).Node = b.Node ∧ (cE E e).Role = b.Role then some (cE E e).Val else lk E b d (cE E e).Next) else none
def lkp (E : List Cell) (b : Bi) (e : Int) : Option Vl := lk E b (e.toNat + 1) e
def EOk (E : List Cell) : Prop := ∀ i : Nat, i < E.length → -1 ≤ (cE E i).Next ∧ (cE E i).Next < i
theorem EOk.at {E : List Cell} (h : EOk E) {e : Int} (h0 : 0 ≤ e) (h1 : e < E.length) : -1 ≤ (cE E e).Next ∧ (cE E e).Next < e := by
  have := h e.toNat (by omega)
  rwa [show ((e.toNat : Nat) : Int) = e by omega] at this
theorem lk_neg (E : List Cell) (b : Bi) (d : Nat) (e : Int) (h : e < 0) : lk E b d e = none := by
  cases d with
  | zero => rfl
  | succ d => rw [lk, if_neg (by omega)]
theorem lk_fuel {E : List Cell} (h : EOk E) (b : Bi) : ∀ (d d' : Nat) (e : Int), e < E.length → e.toNat < d → e.toNat < d' → lk E b d e = lk E b d' e := by
  intro d
  induction d with
  | zero => intro d' e _ h1; omega
  | succ d ih =>
    intro d' e he h1 h2
    obtain ⟨d', rfl⟩ := succ_of h2
    rw [lk, lk]
    by_cases h0 : 0 ≤ e
    · rw [if_pos h0, if_pos h0]
      split
      · rfl
      · have := h.at h0 he
        by_cases hn : 0 ≤ (cE E e).Next
        · exact ih d' _ (by omega) (by omega) (by omega)
        · rw [lk_neg _ _ _ _ (by omega), lk_neg _ _ _ _ (by omega)]
    · rw [if_neg h0, if_neg h0]
theorem lkp_neg (E : List Cell) (b : Bi) (e : Int) (h : e < 0) : lkp E b e = none := lk_neg _ _ _ _ h
theorem lkp_at {E : List Cell} (h : EOk E) (b : Bi) (e : Int) (h0 : 0 ≤ e) (h1 : e < E.length) : lkp E b e = if (cE E e).Node = b.Node ∧ (cE E e).Role = b.Role then some (cE E e).Val else lkp E b (cE E e).Next := by
  unfold lkp
  rw [lk, if_pos h0]
  split
  · rfl
  · have := h.at h0 h1
    by_cases hn : 0 ≤ (cE E e).Next
    · exact lk_fuel h b _ _ _ (by omega) (by omega) (by omega)
    · rw [lk_neg _ _ _ _ (by omega), lk_neg _ _ _ _ (by omega)]
theorem lk_app {E : List Cell} (h : EOk E) (F : List Cell) (b : Bi) : ∀ (d : Nat) (e : Int), e < E.length → lk (E ++ F) b d e = lk E b d e := by
  intro d
  induction d with
  | zero => intro e _; rfl
  | succ d ih =>
    intro e he
    rw [lk, lk]
    by_cases h0 : 0 ≤ e
    · rw [if_pos h0, if_pos h0, cE_app E F e he h0, ih _ (by have := h.at h0 he; omega)]
    · rw [if_neg h0, if_neg h0]
theorem lkp_app {E : List Cell} (h : EOk E) (F : List Cell) (b : Bi) (e : Int) (he : e < E.length) : lkp (E ++ F) b e = lkp E b e := lk_app h F b _ _ he
theorem EOk.snoc {E : List Cell} (h : EOk E) (c : Cell) (h0 : -1 ≤ c.Next) (h1 : c.Next < E.length) : EOk (E ++ [c]) := by
  intro i hi
  simp at hi
  by_cases q : i < E.length
  · rw [cE_app E [c] i (by omega) (by omega)]; exact h i q
  · rw [show i = E.length by omega, cE_new]; exact ⟨h0, h1⟩
theorem lkp_new {E : List Cell} (h : EOk E) (c : Cell) (b : Bi) (h0 : -1 ≤ c.Next) (h1 : c.Next < E.length) : lkp (E ++ [c]) b (E.length : Int) = if c.Node = b.Node ∧ c.Role = b.Role then some c.Val else lkp E b c.Next := by
  rw [lkp_at (h.snoc c h0 h1) b _ (by omega) (by simp; omega), cE_new]
  split
  · rfl
  · exact lkp_app h [c] b _ h1
theorem lk_val {E : List Cell} (h : EOk E) (b : Bi) (v : Vl) : ∀ (d : Nat) (e : Int), e < E.length → lk E b d e = some v → ∃ i : Nat, i < E.length ∧ v = (cE E i).Val := by
  intro d
  induction d with
  | zero => intro e _ q; cases q
  | succ d ih =>
    intro e he q
    rw [lk] at q
    by_cases h0 : 0 ≤ e
    · rw [if_pos h0] at q
      split at q
      · cases q
        exact ⟨e.toNat, by omega, by rw [show ((e.toNat : Nat) : Int) = e by omega]⟩
      · exact ih _ (by have := h.at h0 he; omega) q
    · rw [if_neg h0] at q; cases q
/-! ### what is bound at a node -/
inductive Vis (l : List Nd) : Int → Bi → Prop
  | here {x : Int} {r : Int} : 0 ≤ parOf l x → r ∈ (bindN (nd l (parOf l x).toNat) x).2 → Vis l x ⟨parOf l x, r⟩
  | up {x : Int} {b : Bi} : 0 ≤ parOf l x → Vis l (parOf l x) b → Vis l x b
theorem role_mem (ns : List ByteArray) (rs : List Int) (s : ByteArray) (hl : rs.length = ns.length) (r : Int) : ∀ (e j : Nat), j + e = ns.length → roleFrom ns rs s e j = some r → r ∈ rs := by
  intro e
  induction e with
  | zero => intro j _ h; cases h
  | succ e ih =>
    intro j hj h
    rw [roleFrom] at h
    split at h
    · cases h
      rw [rd_nat]
      simp only [List.getD]
      rw [List.getElem?_eq_getElem (by omega)]
      exact List.getElem_mem _
    · exact ih (j + 1) (by omega) h
theorem up_vis (l : List Nd) (s : ByteArray) : ∀ (d : Nat) (x : Int), 0 ≤ (binderUp l s d x (parOf l x)).Node → Vis l x (binderUp l s d x (parOf l x)) := by
  intro d
  induction d with
  | zero => intro x h; simp [binderUp, noB] at h
  | succ d ih =>
    intro x h
    rw [binderUp] at h ⊢
    by_cases h0 : parOf l x ≥ 0
    · rw [if_pos h0] at h ⊢
      cases hr : roleB (nd l (parOf l x).toNat) x s with
      | some r =>
        exact .here h0 (role_mem _ _ _ (bind_len _ _).1 r _ 0 (by omega) hr)
      | none =>
        rw [hr] at h
        exact .up h0 (ih _ h)
    · rw [if_neg h0] at h; simp [noB] at h
/-- All that is bound at a node is found from a cell on. -/
def Cov (l : List Nd) (E : List Cell) (x e : Int) : Prop := ∀ b, Vis l x b → ∃ v, lkp E b e = some v
theorem cov_app {l : List Nd} {E : List Cell} (h : EOk E) (F : List Cell) {x e : Int} (he : e < E.length) (c : Cov l E x e) : Cov l (E ++ F) x e := fun b hb => by
  obtain ⟨v, q⟩ := c b hb
  exact ⟨v, by rw [lkp_app h F b e he]; exact q⟩
theorem cov_kid {l : List Nd} {E : List Cell} {q : Nat} {x e : Int} (hp : parOf l x = q) (h1 : ∀ r ∈ (bindN (nd l q) x).2, ∃ v, lkp E ⟨q, r⟩ e = some v) (h2 : Cov l E q e) : Cov l E x e := fun b hb => by
  cases hb with
  | here h0 hr => rw [hp] at hr ⊢; exact h1 _ hr
  | up h0 hv => rw [hp] at hv; exact h2 _ hv
theorem cov_root {l : List Nd} {E : List Cell} {x e : Int} (h : parOf l x < 0) : Cov l E x e := fun b hb => by
  cases hb with
  | here h0 _ => omega
  | up h0 _ => omega
theorem some_new {E : List Cell} (h : EOk E) (c : Cell) (b : Bi) (h0 : -1 ≤ c.Next) (h1 : c.Next < E.length) (q : ∃ v, lkp E b c.Next = some v) : ∃ v, lkp (E ++ [c]) b (E.length : Int) = some v := by
  rw [lkp_new h c b h0 h1]
  split
  · exact ⟨_, rfl⟩
  · exact q
theorem own_new {E : List Cell} (h : EOk E) (c : Cell) (h0 : -1 ≤ c.Next) (h1 : c.Next < E.length) : ∃ v, lkp (E ++ [c]) ⟨c.Node, c.Role⟩ (E.length : Int) = some v := by
  rw [lkp_new h c _ h0 h1, if_pos ⟨rfl, rfl⟩]
  exact ⟨_, rfl⟩
theorem cov_new {l : List Nd} {E : List Cell} (h : EOk E) (c : Cell) (h0 : -1 ≤ c.Next) (h1 : c.Next < E.length) {x : Int} (q : Cov l E x c.Next) : Cov l (E ++ [c]) x (E.length : Int) := fun b hb => some_new h c b h0 h1 (q b hb)
/-! ### kids' parents -/
theorem par_A {l : List Nd} (h : nodesOkB l = true) (x : Nat) (hx : x < l.length) (ha : 1 ≤ arityN (nd l x).Kind) : parOf l (nd l x).A = x ∧ 0 ≤ (nd l x).A ∧ (nd l x).A < x := by
  have e : rd (kids (nd l x)) ((0 : Nat) : Int) = (nd l x).A := kid0 _ (by omega)
  have hk := ok_kids h x hx 0 (by omega)
  rw [e] at hk
  exact ⟨par_eq h _ x hx ((hasKid_iff _ _).2 ⟨0, by omega, e⟩), hk⟩
theorem kid1 (n : Nd) (h : 1 < arityN n.Kind) : rd (kids n) ((1 : Nat) : Int) = n.B := by
  unfold kids rd
  have := arity_le n.Kind
  rcases (by omega : arityN n.Kind = 2 ∨ arityN n.Kind = 3) with e | e <;> rw [e] <;> rfl
theorem kid2 (n : Nd) (h : 2 < arityN n.Kind) : rd (kids n) ((2 : Nat) : Int) = n.C := by
  unfold kids rd
  have := arity_le n.Kind
  rw [show arityN n.Kind = 3 by omega]; rfl
theorem par_B {l : List Nd} (h : nodesOkB l = true) (x : Nat) (hx : x < l.length) (ha : 2 ≤ arityN (nd l x).Kind) : parOf l (nd l x).B = x ∧ 0 ≤ (nd l x).B ∧ (nd l x).B < x := by
  have e := kid1 (nd l x) (by omega)
  have hk := ok_kids h x hx 1 (by omega)
  rw [e] at hk
  exact ⟨par_eq h _ x hx ((hasKid_iff _ _).2 ⟨1, by omega, e⟩), hk⟩
theorem par_C {l : List Nd} (h : nodesOkB l = true) (x : Nat) (hx : x < l.length) (ha : 3 ≤ arityN (nd l x).Kind) : parOf l (nd l x).C = x ∧ 0 ≤ (nd l x).C ∧ (nd l x).C < x := by
  have e := kid2 (nd l x) (by omega)
  have hk := ok_kids h x hx 2 (by omega)
  rw [e] at hk
  exact ⟨par_eq h _ x hx ((hasKid_iff _ _).2 ⟨2, by omega, e⟩), hk⟩
/-! ### heaps that are right -/
def VOk (h : Hs) (v : Vl) : Prop := (v.Kind = 0 ∧ 0 ≤ v.N ∧ v.N ≤ 65535) ∨ (v.Kind = 1 ∧ 0 ≤ v.N ∧ v.N < h.Clos.length) ∨ (v.Kind = 2 ∧ v.N = 0) ∨ ((v.Kind = 3 ∨ v.Kind = 4) ∧ 0 ≤ v.N ∧ v.N < h.Twos.length) ∨ (v.Kind = 5 ∧ 0 ≤ v.N ∧ v.N < h.Refs.length)
theorem VOk.mono {h h' : Hs} {v : Vl} (q : VOk h v) (c : h.Clos.length ≤ h'.Clos.length) (t : h.Twos.length ≤ h'.Twos.length) (r : h.Refs.length ≤ h'.Refs.length) : VOk h' v := by
  unfold VOk at q ⊢; omega
theorem v0_ok (h : Hs) : VOk h v0 := by unfold VOk v0; simp
def CloOk (l : List Nd) (E : List Cell) (c : impl_Clo) : Prop := -1 ≤ c.Env ∧ c.Env < E.length ∧ 0 ≤ c.Node ∧ c.Node < l.length ∧ Cov l E c.Node c.Env ∧ ((nd l c.Node.toNat).Kind = 3 ∨ ((nd l c.Node.toNat).Kind = 6 ∧ ∃ v, lkp E ⟨c.Node, 0⟩ c.Env = some v))
structure HOk (l : List Nd) (h : Hs) : Prop where
  eo : EOk h.Envs
  e : ∀ i : Nat, i < h.Envs.length → VOk h (cE h.Envs i).Val
  c : ∀ i : Nat, i < h.Clos.length → CloOk l h.Envs (cC h.Clos i)
  t : ∀ i : Nat, i < h.Twos.length → VOk h (cT h.Twos i).A ∧ VOk h (cT h.Twos i).B
  r : ∀ i : Nat, i < h.Refs.length → VOk h (cR h.Refs i)
theorem CloOk.app {l : List Nd} {E : List Cell} (h : EOk E) (F : List Cell) {c : impl_Clo} (q : CloOk l E c) : CloOk l (E ++ F) c := by
  obtain ⟨a, b, c1, d, e, f⟩ := q
  refine ⟨a, by simp; omega, c1, d, cov_app h F b e, ?_⟩
  rcases f with f | ⟨f, v, g⟩
  · exact .inl f
  · exact .inr ⟨f, v, by rw [lkp_app h F _ _ b]; exact g⟩
def hE (h : Hs) (c : Cell) : Hs := ⟨h.Envs ++ [c], h.Clos, h.Twos, h.Refs⟩
def hC (h : Hs) (c : impl_Clo) : Hs := ⟨h.Envs, h.Clos ++ [c], h.Twos, h.Refs⟩
def hT (h : Hs) (c : impl_Two) : Hs := ⟨h.Envs, h.Clos, h.Twos ++ [c], h.Refs⟩
def hR (h : Hs) (c : Vl) : Hs := ⟨h.Envs, h.Clos, h.Twos, h.Refs ++ [c]⟩
def hS (h : Hs) (i : Int) (c : Vl) : Hs := ⟨h.Envs, h.Clos, h.Twos, h.Refs.set i.toNat c⟩
theorem HOk.hE {l : List Nd} {h : Hs} (q : HOk l h) (c : Cell) (hv : VOk h c.Val) (h0 : -1 ≤ c.Next) (h1 : c.Next < h.Envs.length) : HOk l (hE h c) where
  eo := q.eo.snoc c h0 h1
  e := fun i hi => by
    have m : ∀ v, VOk h v → VOk (Proofs.YtifomiglajcanaaGreatDoorE.hE h c) v := fun v hv => hv.mono (Nat.le_refl _) (Nat.le_refl _) (Nat.le_refl _)
    simp [Proofs.YtifomiglajcanaaGreatDoorE.hE] at hi
    show VOk _ (cE (h.Envs ++ [c]) i).Val
    by_cases z : i < h.Envs.length
    · rw [cE_app h.Envs [c] i (by omega) (by omega)]; exact m _ (q.e i z)
    · rw [show i = h.Envs.length by omega, cE_new]; exact m _ hv
  c := fun i hi => (q.c i hi).app q.eo [c]
  t := q.t
  r := q.r
theorem HOk.hC {l : List Nd} {h : Hs} (q : HOk l h) (c : impl_Clo) (hc : CloOk l h.Envs c) : HOk l (hC h c) :=
  have m : ∀ v, VOk h v → VOk (Proofs.YtifomiglajcanaaGreatDoorE.hC h c) v := fun v hv => hv.mono (by simp [Proofs.YtifomiglajcanaaGreatDoorE.hC]) (Nat.le_refl _) (Nat.le_refl _)
  { eo := q.eo
    e := fun i hi => m _ (q.e i hi)
    c := fun i hi => by
      simp [Proofs.YtifomiglajcanaaGreatDoorE.hC] at hi
      show CloOk l h.Envs (cC (h.Clos ++ [c]) i)
      by_cases z : i < h.Clos.length
      · rw [cC_app h.Clos [c] i (by omega) (by omega)]; exact q.c i z
      · rw [show i = h.Clos.length by omega, cC_new]; exact hc
    t := fun i hi => ⟨m _ (q.t i hi).1, m _ (q.t i hi).2⟩
    r := fun i hi => m _ (q.r i hi) }
/-- A function that stands in its own cell: both are new. -/
theorem HOk.recu {l : List Nd} {h : Hs} (q : HOk l h) (c : Cell) (d : impl_Clo) (hv : c.Val = ⟨1, h.Clos.length⟩) (h0 : -1 ≤ c.Next) (h1 : c.Next < h.Envs.length) (hd : CloOk l (h.Envs ++ [c]) d) : HOk l (Proofs.YtifomiglajcanaaGreatDoorE.hC (Proofs.YtifomiglajcanaaGreatDoorE.hE h c) d) :=
  have m : ∀ v, VOk h v → VOk (Proofs.YtifomiglajcanaaGreatDoorE.hC (Proofs.YtifomiglajcanaaGreatDoorE.hE h c) d) v := fun v hv => hv.mono (by simp [Proofs.YtifomiglajcanaaGreatDoorE.hC, Proofs.YtifomiglajcanaaGreatDoorE.hE]) (Nat.le_refl _) (Nat.le_refl _)
  { eo := q.eo.snoc c h0 h1
    e := fun i hi => by
      simp [Proofs.YtifomiglajcanaaGreatDoorE.hE, Proofs.YtifomiglajcanaaGreatDoorE.hC] at hi
      show VOk _ (cE (h.Envs ++ [c]) i).Val
      by_cases z : i < h.Envs.length
      · rw [cE_app h.Envs [c] i (by omega) (by omega)]; exact m _ (q.e i z)
      · rw [show i = h.Envs.length by omega, cE_new, hv]; right; left; simp [Proofs.YtifomiglajcanaaGreatDoorE.hC, Proofs.YtifomiglajcanaaGreatDoorE.hE]; omega
    c := fun i hi => by
      simp [Proofs.YtifomiglajcanaaGreatDoorE.hC, Proofs.YtifomiglajcanaaGreatDoorE.hE] at hi
      show CloOk l (h.Envs ++ [c]) (cC (h.Clos ++ [d]) i)
      by_cases z : i < h.Clos.length
      · rw [cC_app h.Clos [d] i (by omega) (by omega)]; exact (q.c i z).app q.eo [c]
      · rw [show i = h.Clos.length by omega, cC_new]; exact hd
    t := fun i hi => ⟨m _ (q.t i hi).1, m _ (q.t i hi).2⟩
    r := fun i hi => m _ (q.r i hi) }
theorem HOk.hT {l : List Nd} {h : Hs} (q : HOk l h) (c : impl_Two) (ha : VOk h c.A) (hb : VOk h c.B) : HOk l (hT h c) :=
  have m : ∀ v, VOk h v → VOk (Proofs.YtifomiglajcanaaGreatDoorE.hT h c) v := fun v hv => hv.mono (Nat.le_refl _) (by simp [Proofs.YtifomiglajcanaaGreatDoorE.hT]) (Nat.le_refl _)
  { eo := q.eo
    e := fun i hi => m _ (q.e i hi)
    c := q.c
    t := fun i hi => by
      simp [Proofs.YtifomiglajcanaaGreatDoorE.hT] at hi
      show VOk _ (cT (h.Twos ++ [c]) i).A ∧ VOk _ (cT (h.Twos ++ [c]) i).B
      by_cases z : i < h.Twos.length
      · rw [cT_app h.Twos [c] i (by omega) (by omega)]; exact ⟨m _ (q.t i z).1, m _ (q.t i z).2⟩
      · rw [show i = h.Twos.length by omega, cT_new]; exact ⟨m _ ha, m _ hb⟩
    r := fun i hi => m _ (q.r i hi) }
theorem HOk.hR {l : List Nd} {h : Hs} (q : HOk l h) (c : Vl) (hc : VOk h c) : HOk l (hR h c) :=
  have m : ∀ v, VOk h v → VOk (Proofs.YtifomiglajcanaaGreatDoorE.hR h c) v := fun v hv => hv.mono (Nat.le_refl _) (Nat.le_refl _) (by simp [Proofs.YtifomiglajcanaaGreatDoorE.hR])
  { eo := q.eo
    e := fun i hi => m _ (q.e i hi)
    c := q.c
    t := fun i hi => ⟨m _ (q.t i hi).1, m _ (q.t i hi).2⟩
    r := fun i hi => by
      simp [Proofs.YtifomiglajcanaaGreatDoorE.hR] at hi
      show VOk _ (cR (h.Refs ++ [c]) i)
      by_cases z : i < h.Refs.length
      · rw [cR_app h.Refs [c] i (by omega) (by omega)]; exact m _ (q.r i z)
      · rw [show i = h.Refs.length by omega, cR_new]; exact m _ hc }
theorem HOk.hS {l : List Nd} {h : Hs} (q : HOk l h) (j : Int) (c : Vl) (hc : VOk h c) : HOk l (hS h j c) :=
  have m : ∀ v, VOk h v → VOk (Proofs.YtifomiglajcanaaGreatDoorE.hS h j c) v := fun v hv => hv.mono (Nat.le_refl _) (Nat.le_refl _) (by simp [Proofs.YtifomiglajcanaaGreatDoorE.hS])
  { eo := q.eo
    e := fun i hi => m _ (q.e i hi)
    c := q.c
    t := fun i hi => ⟨m _ (q.t i hi).1, m _ (q.t i hi).2⟩
    r := fun i hi => by
      simp [Proofs.YtifomiglajcanaaGreatDoorE.hS] at hi
      show VOk _ (cR (h.Refs.set j.toNat c) i)
      unfold cR
      rw [Int.toNat_natCast]
      by_cases z : j.toNat = i
      · rw [← z, set_getD_eq _ _ _ _ (by omega)]; exact m _ hc
      · rw [set_getD_ne _ _ _ _ _ z]; have := q.r i hi; unfold cR at this; rw [Int.toNat_natCast] at this; exact m _ this }
theorem lkp_ok {l : List Nd} {h : Hs} (q : HOk l h) {b : Bi} {e : Int} (he : e < h.Envs.length) {v : Vl} (z : lkp h.Envs b e = some v) : VOk h v := by
  obtain ⟨i, hi, rfl⟩ := lk_val q.eo b v _ e he z
  exact q.e i hi
end Go.Proofs.YtifomiglajcanaaGreatDoorE

namespace Go.Proofs.YtifomiglajcanaaGreatDoorE
open Go.Ev Go.RowKit
set_option linter.unusedVariables false
set_option linter.unusedSimpArgs false
theorem down_inc {ss ks : List Int} {i : Nat} (hs : StN ss i) (j : Nat) : ∀ (a b : Int), 0 ≤ a → a ≤ i → down ss ks j a = some b → ∀ m m', m < m' → m' < j → rd ks (m : Int) < rd ks (m' : Int) := by
  induction j with
  | zero => intro a b _ _ _ m m' hm hm'; omega
  | succ j ih =>
    intro a b h0 h1 h m m' hm hm'
    rw [down_s] at h
    split at h
    · rename_i hc
      obtain ⟨q, hq⟩ : ∃ q : Nat, a - 1 = (q : Int) := ⟨(a - 1).toNat, by omega⟩
      rw [hq, rd_nat] at h
      have hb := hs.2 q (by omega)
      by_cases hmj : m' = j
      · subst hmj
        have := down_kids hs _ _ b hb.1 (by omega) h m hm
        omega
      · exact ih _ b hb.1 (by omega) h m m' hm (by omega)
    · cases h
theorem kids_inc {l : List Nd} (h : nodesOkB l = true) (x : Nat) (hx : x < l.length) (m m' : Nat) (hm : m < m') (hm' : m' < arityN (nd l x).Kind) : rd (kids (nd l x)) (m : Int) < rd (kids (nd l x)) (m' : Int) := by
  obtain ⟨_, hs, hd⟩ := startsL_ok h
  exact down_inc hs _ _ _ (by omega) (by omega) (hd x hx) m m' hm hm'
theorem lt_AB {l : List Nd} (h : nodesOkB l = true) (x : Nat) (hx : x < l.length) (ha : 2 ≤ arityN (nd l x).Kind) : (nd l x).A < (nd l x).B := by
  have := kids_inc h x hx 0 1 (by omega) (by omega)
  rwa [kid1 _ (by omega), show rd (kids (nd l x)) ((0 : Nat) : Int) = (nd l x).A from kid0 _ (by omega)] at this
theorem lt_BC {l : List Nd} (h : nodesOkB l = true) (x : Nat) (hx : x < l.length) (ha : 3 ≤ arityN (nd l x).Kind) : (nd l x).B < (nd l x).C := by
  have := kids_inc h x hx 1 2 (by omega) (by omega)
  rwa [kid1 _ (by omega), kid2 _ (by omega)] at this
/-! ### the steps -/
structure Mc where
  d : Int
  node : Int
  env : Int
  v : Vl
  fr : List Fr
  h : Hs
  ev : List Evt
def dn (m : Mc) (h : Hs) (i : Int) (v : Vl) : Mc := ⟨1, m.node, m.env, v, m.fr, h, m.ev ++ [⟨2, i, v.Kind⟩]⟩
def psF (i : Int) : Fr := ⟨0, i, 0, v0⟩
def lkM (m : Mc) (fr : List Fr) (h : Hs) (ev : List Evt) (i e : Int) : Mc := ⟨0, i, e, m.v, fr, h, ev⟩
def elen (h : Hs) : Int := (h.Envs.length : Int)
def lookM (l : List Nd) (m : Mc) : Mc :=
  let n := nd l m.node.toNat
  if n.Kind = 2 then dn m m.h m.node ⟨0, n.N⟩
  else if n.Kind = 12 then dn m m.h m.node ⟨2, 0⟩
  else if n.Kind = 1 then dn m m.h m.node ((lkp m.h.Envs (binderB l m.node.toNat) m.env).getD v0)
  else if n.Kind = 3 then dn m (hC m.h ⟨m.node, m.env⟩) m.node ⟨1, m.h.Clos.length⟩
  else if n.Kind = 6 then lkM m (m.fr ++ [psF m.node]) (hC (hE m.h ⟨m.node, 0, ⟨1, m.h.Clos.length⟩, m.env⟩) ⟨m.node, elen m.h⟩) m.ev n.B (elen m.h)
  else lkM m (m.fr ++ [⟨1, m.node, m.env, v0⟩]) m.h m.ev n.A m.env
def isL (v : Vl) : Prop := v.Kind = 2 ∨ v.Kind = 4
instance (v : Vl) : Decidable (isL v) := inferInstanceAs (Decidable (_ ∨ _))
def primN (op a b : Int) : Int := if op = 0 then Int.tmod (a + b) 65536 else if op = 1 then Int.tmod (a - b + 65536) 65536 else if op = 2 then (if a < b then 1 else 0) else if a = b then 1 else 0
def callM (l : List Nd) (m : Mc) (i : Int) (f v : Vl) : Mc :=
  let c := cC m.h.Clos f.N
  lkM m (m.fr ++ [psF i]) (hE m.h ⟨c.Node, if (nd l c.Node.toNat).Kind = 6 then 1 else 0, v, c.Env⟩) (m.ev ++ [⟨1, i, c.Node⟩]) (nd l c.Node.toNat).A (elen m.h)
def secondM (l : List Nd) (m : Mc) (f : Fr) : Option Mc :=
  let n := nd l f.node.toNat
  if n.Kind = 9 then some (dn m (hT m.h ⟨f.v_, m.v⟩) f.node ⟨3, m.h.Twos.length⟩)
  else if n.Kind = 13 ∧ isL m.v then some (dn m (hT m.h ⟨f.v_, m.v⟩) f.node ⟨4, m.h.Twos.length⟩)
  else if n.Kind = 17 ∧ f.v_.Kind = 5 then some (dn m (hS m.h f.v_.N m.v) f.node v0)
  else if n.Kind = 8 ∧ f.v_.Kind = 0 ∧ m.v.Kind = 0 then some (dn m m.h f.node ⟨0, primN n.N f.v_.N m.v.N⟩)
  else if n.Kind = 4 ∧ f.v_.Kind = 1 then some (callM l m f.node f.v_ m.v)
  else none
def matchM (l : List Nd) (m : Mc) (f : Fr) : Mc :=
  let n := nd l f.node.toNat
  if m.v.Kind = 2 then lkM m (m.fr ++ [psF f.node]) m.h m.ev n.B f.env
  else lkM m (m.fr ++ [psF f.node]) (hE (hE m.h ⟨f.node, 0, (cT m.h.Twos m.v.N).A, f.env⟩) ⟨f.node, 1, (cT m.h.Twos m.v.N).B, elen m.h⟩) m.ev n.C (elen m.h + 1)
def takeM (l : List Nd) (m : Mc) (f : Fr) : Option Mc :=
  let n := nd l f.node.toNat
  if n.Kind = 10 ∧ m.v.Kind = 3 then some (dn m m.h f.node (cT m.h.Twos m.v.N).A)
  else if n.Kind = 11 ∧ m.v.Kind = 3 then some (dn m m.h f.node (cT m.h.Twos m.v.N).B)
  else if n.Kind = 16 ∧ m.v.Kind = 5 then some (dn m m.h f.node (cR m.h.Refs m.v.N))
  else if n.Kind = 18 ∧ m.v.Kind = 0 then some ⟨2, m.node, m.env, m.v, m.fr, m.h, m.ev⟩
  else none
def five (k : Int) : Prop := k = 4 ∨ k = 8 ∨ k = 9 ∨ k = 13 ∨ k = 17
instance (k : Int) : Decidable (five k) := inferInstanceAs (Decidable (_ ∨ _))
def firstM (l : List Nd) (m : Mc) (f : Fr) : Option Mc :=
  let n := nd l f.node.toNat
  if five n.Kind then some (lkM m (m.fr ++ [⟨2, f.node, f.env, m.v⟩]) m.h m.ev n.B f.env)
  else if n.Kind = 5 then some (lkM m (m.fr ++ [psF f.node]) (hE m.h ⟨f.node, 0, m.v, f.env⟩) m.ev n.B (elen m.h))
  else if n.Kind = 19 then some (dn m m.h f.node m.v)
  else if n.Kind = 7 ∧ m.v.Kind = 0 then some (lkM m (m.fr ++ [psF f.node]) m.h m.ev (if m.v.N = 0 then n.C else n.B) f.env)
  else if n.Kind = 14 ∧ isL m.v then some (matchM l m f)
  else if n.Kind = 15 then some (dn m (hR m.h m.v) f.node ⟨5, m.h.Refs.length⟩)
  else takeM l m f
/-- m holds the frames below f. -/
def backM (l : List Nd) (m : Mc) (f : Fr) : Option Mc :=
  if m.d = 2 then some (if f.wait = 1 ∧ (nd l f.node.toNat).Kind = 19 then lkM m (m.fr ++ [psF f.node]) (hE m.h ⟨f.node, 0, m.v, f.env⟩) m.ev (nd l f.node.toNat).B (elen m.h) else m)
  else if f.wait = 0 then some (dn m m.h f.node m.v)
  else if f.wait = 1 then firstM l m f
  else secondM l m f
def popM (m : Mc) : Mc := ⟨m.d, m.node, m.env, m.v, m.fr.take (m.fr.length - 1), m.h, m.ev⟩
def topF (m : Mc) : Fr := m.fr.getD (m.fr.length - 1) (psF 0)
def stepM (l : List Nd) (m : Mc) : Option Mc := if m.d = 0 then some (lookM l m) else backM l (popM m) (topF m)
/-! ### what stays -/
structure LkOk (l : List Nd) (h : Hs) (x e : Int) : Prop where
  x0 : 0 ≤ x
  x1 : x < l.length
  e0 : -1 ≤ e
  e1 : e < h.Envs.length
  cov : Cov l h.Envs x e
def leafK (k : Int) : Prop := k = 1 ∨ k = 2 ∨ k = 3 ∨ k = 6 ∨ k = 12
structure FrOk (l : List Nd) (h : Hs) (f : Fr) : Prop where
  n0 : 0 ≤ f.node
  n1 : f.node < l.length
  v : VOk h f.v_
  w : f.wait = 0 ∨ (f.wait = 1 ∧ LkOk l h f.node f.env ∧ ¬ leafK (nd l f.node.toNat).Kind) ∨ (f.wait = 2 ∧ five (nd l f.node.toNat).Kind)
structure MOk (l : List Nd) (m : Mc) : Prop where
  h : HOk l m.h
  f : ∀ f ∈ m.fr, FrOk l m.h f
  v : VOk m.h m.v
  d : (m.d = 0 ∧ LkOk l m.h m.node m.env) ∨ m.d = 1 ∨ (m.d = 2 ∧ m.v.Kind = 0)
structure HLe (h h' : Hs) : Prop where
  e : ∃ F, h'.Envs = h.Envs ++ F
  c : h.Clos.length ≤ h'.Clos.length
  t : h.Twos.length ≤ h'.Twos.length
  r : h.Refs.length ≤ h'.Refs.length
theorem HLe.rfl {h : Hs} : HLe h h := ⟨⟨[], by simp⟩, Nat.le_refl _, Nat.le_refl _, Nat.le_refl _⟩
theorem HLe.hE (h : Hs) (c : Cell) : HLe h (hE h c) := ⟨⟨[c], Eq.refl _⟩, Nat.le_refl _, Nat.le_refl _, Nat.le_refl _⟩
theorem HLe.hC (h : Hs) (c : impl_Clo) : HLe h (hC h c) := ⟨⟨[], by simp [Proofs.YtifomiglajcanaaGreatDoorE.hC]⟩, by simp [Proofs.YtifomiglajcanaaGreatDoorE.hC], Nat.le_refl _, Nat.le_refl _⟩
theorem HLe.hT (h : Hs) (c : impl_Two) : HLe h (hT h c) := ⟨⟨[], by simp [Proofs.YtifomiglajcanaaGreatDoorE.hT]⟩, Nat.le_refl _, by simp [Proofs.YtifomiglajcanaaGreatDoorE.hT], Nat.le_refl _⟩
theorem HLe.hR (h : Hs) (c : Vl) : HLe h (hR h c) := ⟨⟨[], by simp [Proofs.YtifomiglajcanaaGreatDoorE.hR]⟩, Nat.le_refl _, Nat.le_refl _, by simp [Proofs.YtifomiglajcanaaGreatDoorE.hR]⟩
theorem HLe.hS (h : Hs) (i : Int) (c : Vl) : HLe h (hS h i c) := ⟨⟨[], by simp [Proofs.YtifomiglajcanaaGreatDoorE.hS]⟩, Nat.le_refl _, Nat.le_refl _, by simp [Proofs.YtifomiglajcanaaGreatDoorE.hS]⟩
theorem HLe.trans {a b c : Hs} (x : HLe a b) (y : HLe b c) : HLe a c := by
  obtain ⟨F, hF⟩ := x.e
  obtain ⟨G, hG⟩ := y.e
  exact ⟨⟨F ++ G, by rw [hG, hF, List.append_assoc]⟩, Nat.le_trans x.c y.c, Nat.le_trans x.t y.t, Nat.le_trans x.r y.r⟩
theorem VOk.le {h h' : Hs} {v : Vl} (q : VOk h v) (z : HLe h h') : VOk h' v := q.mono z.c z.t z.r
theorem LkOk.le {l : List Nd} {h h' : Hs} {x e : Int} (q : LkOk l h x e) (o : EOk h.Envs) (z : HLe h h') : LkOk l h' x e := by
  obtain ⟨F, hF⟩ := z.e
  refine ⟨q.x0, q.x1, q.e0, ?_, ?_⟩
  · rw [hF]; have := q.e1; simp; omega
  · rw [hF]; exact cov_app o F q.e1 q.cov
theorem FrOk.le {l : List Nd} {h h' : Hs} {f : Fr} (q : FrOk l h f) (o : EOk h.Envs) (z : HLe h h') : FrOk l h' f := by
  refine ⟨q.n0, q.n1, q.v.le z, ?_⟩
  rcases q.w with w | ⟨w, a, b⟩ | w
  · exact .inl w
  · exact .inr (.inl ⟨w, a.le o z, b⟩)
  · exact .inr (.inr w)
theorem FrOk.ps {l : List Nd} (h : Hs) {i : Int} (h0 : 0 ≤ i) (h1 : i < l.length) : FrOk l h (psF i) := ⟨h0, h1, v0_ok h, .inl rfl⟩
theorem frs_snoc {l : List Nd} {h : Hs} {p : List Fr} {f : Fr} (a : ∀ f ∈ p, FrOk l h f) (b : FrOk l h f) : ∀ g ∈ p ++ [f], FrOk l h g := fun g hg => by
  rcases List.mem_append.1 hg with hg | hg
  · exact a g hg
  · simp at hg; subst hg; exact b
theorem mok_dn {l : List Nd} {m : Mc} (q : MOk l m) {h : Hs} (z : HLe m.h h) (ho : HOk l h) (i : Int) {v : Vl} (hv : VOk h v) : MOk l (dn m h i v) :=
  ⟨ho, fun f hf => (q.f f hf).le q.h.eo z, hv, .inr (.inl rfl)⟩
theorem mok_lk {l : List Nd} {m : Mc} (q : MOk l m) {h : Hs} (z : HLe m.h h) (ho : HOk l h) {f : Fr} (hf : FrOk l h f) (ev : List Evt) {x e : Int} (hk : LkOk l h x e) : MOk l (lkM m (m.fr ++ [f]) h ev x e) :=
  ⟨ho, frs_snoc (fun f hf => (q.f f hf).le q.h.eo z) hf, q.v.le z, .inl ⟨rfl, hk⟩⟩
theorem lk_kid {l : List Nd} {h h' : Hs} {q : Nat} {x e : Int} (hp : parOf l x = q) (h0 : 0 ≤ x) (h1 : x < q) (hq : q < l.length) (e0 : -1 ≤ e) (e1 : e < h.Envs.length) (r : ∀ r ∈ (bindN (nd l q) x).2, ∃ v, lkp h.Envs ⟨q, r⟩ e = some v) (c : Cov l h.Envs q e) : LkOk l h x e :=
  ⟨h0, by omega, e0, e1, cov_kid hp r c⟩
def ClosedP (l : List Nd) : Prop := ∀ i : Nat, i < l.length → (nd l i).Kind = 1 → 0 ≤ (binderB l i).Node
theorem nat_of {x : Int} (h : 0 ≤ x) : ((x.toNat : Nat) : Int) = x := by omega
theorem ok_fieldsM {l : List Nd} (h : nodesOkB l = true) (x : Nat) (hx : x < l.length) : fieldsB (nd l x) = true := by
  obtain ⟨_, _, ss, _, _, q⟩ := ok_all h
  rw [nd_get l x hx]; exact (q x hx).1
theorem kind_in {l : List Nd} (h : nodesOkB l = true) (x : Nat) (hx : x < l.length) : 1 ≤ (nd l x).Kind ∧ (nd l x).Kind ≤ 19 := by
  have := ok_fieldsM h x hx
  unfold fieldsB inB at this
  simp only [Bool.and_eq_true, decide_eq_true_eq] at this
  exact this.1
theorem look_ok {l : List Nd} (h : nodesOkB l = true) (hc : ClosedP l) {m : Mc} (q : MOk l m) (k : LkOk l m.h m.node m.env) : MOk l (lookM l m) := by
  obtain ⟨x0, x1, e0, e1, cov⟩ := k
  obtain ⟨d, node, env, v, fr, hp, ev⟩ := m
  simp only at x0 x1 e0 e1 cov
  obtain ⟨x, rfl⟩ : ∃ x : Nat, node = (x : Int) := ⟨node.toNat, by omega⟩
  have hx : x < l.length := by omega
  have kr := kind_in h x hx
  unfold lookM
  simp only [Int.toNat_natCast]
  by_cases h2 : (nd l x).Kind = 2
  · rw [if_pos h2]
    refine mok_dn q .rfl q.h _ ?_
    have := ok_fieldsM h x hx
    unfold fieldsB restB inB at this
    rw [if_pos h2] at this
    simp only [Bool.and_eq_true, decide_eq_true_eq] at this
    exact .inl ⟨rfl, this.2.2.2.2.1, this.2.2.2.2.2⟩
  rw [if_neg h2]
  by_cases h12 : (nd l x).Kind = 12
  · rw [if_pos h12]
    exact mok_dn q .rfl q.h _ (.inr (.inr (.inl ⟨rfl, rfl⟩)))
  rw [if_neg h12]
  by_cases h1 : (nd l x).Kind = 1
  · rw [if_pos h1]
    refine mok_dn q .rfl q.h _ ?_
    have hb := hc x hx h1
    have hv : Vis l x (binderB l x) := by
      unfold binderB at hb ⊢
      rw [if_pos h1] at hb ⊢
      exact up_vis l _ _ _ hb
    obtain ⟨v, hv⟩ := cov _ hv
    rw [hv]
    exact lkp_ok q.h e1 hv
  rw [if_neg h1]
  by_cases h3 : (nd l x).Kind = 3
  · rw [if_pos h3]
    refine mok_dn q (.hC _ _) (q.h.hC _ ⟨e0, e1, x0, x1, cov, .inl (by simpa using h3)⟩) _ (.inr (.inl ⟨rfl, by simp, by simp [hC]; omega⟩))
  rw [if_neg h3]
  by_cases h6 : (nd l x).Kind = 6
  · rw [if_pos h6]
    have ha : arityN (nd l x).Kind = 2 := by rw [h6]; rfl
    have hB := par_B h x hx (by omega)
    have hAB := lt_AB h x hx (by omega)
    have ho := q.h.eo
    simp only at ho
    have c1 : ∃ v, lkp (hp.Envs ++ [⟨x, 0, ⟨1, hp.Clos.length⟩, env⟩]) ⟨x, 0⟩ (elen hp) = some v := own_new ho ⟨x, 0, ⟨1, hp.Clos.length⟩, env⟩ e0 e1
    have c2 : Cov l (hp.Envs ++ [⟨x, 0, ⟨1, hp.Clos.length⟩, env⟩]) x (elen hp) := cov_new ho ⟨x, 0, ⟨1, hp.Clos.length⟩, env⟩ e0 e1 cov
    have el : (elen hp) < ((hp.Envs ++ [(⟨x, 0, ⟨1, hp.Clos.length⟩, env⟩ : Cell)]).length : Int) := by unfold elen; simp; omega
    have el0 : -1 ≤ elen hp := by unfold elen; omega
    have ok := q.h.recu ⟨x, 0, ⟨1, hp.Clos.length⟩, env⟩ ⟨x, elen hp⟩ rfl e0 e1 ⟨el0, el, x0, x1, c2, .inr ⟨by simpa using h6, c1⟩⟩
    refine mok_lk q ((HLe.hE _ _).trans (.hC _ _)) ok (.ps _ x0 x1) _ (lk_kid (h' := hp) hB.1 hB.2.1 hB.2.2 hx el0 el ?_ c2)
    unfold bindN
    rw [if_neg h3, if_neg (by omega), if_pos h6, if_neg (by omega)]
    intro r hr
    simp at hr
    subst hr
    exact c1
  rw [if_neg h6]
  have ha : 1 ≤ arityN (nd l x).Kind := by
    unfold arityN
    split
    · omega
    · split
      · omega
      · split <;> omega
  have hA := par_A h x hx ha
  refine mok_lk q .rfl q.h ⟨x0, x1, v0_ok _, .inr (.inl ⟨rfl, ⟨x0, x1, e0, e1, cov⟩, ?_⟩)⟩ _ (lk_kid (h' := hp) hA.1 hA.2.1 hA.2.2 hx e0 e1 ?_ cov)
  · simp only [Int.toNat_natCast]
    unfold leafK
    omega
  · unfold bindN
    intro r hr
    rw [if_neg h3] at hr
    by_cases h5 : (nd l x).Kind = 5 ∨ (nd l x).Kind = 19
    · have hAB := lt_AB h x hx (by rcases h5 with h5 | h5 <;> rw [h5] <;> decide)
      rw [if_pos h5, if_neg (by omega)] at hr
      simp at hr
    · rw [if_neg h5, if_neg h6] at hr
      by_cases h14 : (nd l x).Kind = 14
      · have hAB := lt_AB h x hx (by rw [h14]; decide)
        have hBC := lt_BC h x hx (by rw [h14]; decide)
        rw [if_pos h14, if_neg (by omega)] at hr
        simp at hr
      · rw [if_neg h14] at hr
        simp at hr
end Go.Proofs.YtifomiglajcanaaGreatDoorE

namespace Go.Proofs.YtifomiglajcanaaGreatDoorE
open Go.Ev Go.RowKit
set_option linter.unusedVariables false
set_option linter.unusedSimpArgs false
theorem prim_in (op a b : Int) (ha : 0 ≤ a ∧ a ≤ 65535) (hb : 0 ≤ b ∧ b ≤ 65535) : 0 ≤ primN op a b ∧ primN op a b ≤ 65535 := by
  unfold primN
  split
  · rw [Int.tmod_eq_emod_of_nonneg (by omega)]; omega
  · split
    · rw [Int.tmod_eq_emod_of_nonneg (by omega)]; omega
    · split
      · split <;> omega
      · split <;> omega
theorem vok_clo {h : Hs} {v : Vl} (q : VOk h v) (k : v.Kind = 1) : 0 ≤ v.N ∧ v.N < h.Clos.length := by unfold VOk at q; omega
theorem vok_two {h : Hs} {v : Vl} (q : VOk h v) (k : v.Kind = 3 ∨ v.Kind = 4) : 0 ≤ v.N ∧ v.N < h.Twos.length := by unfold VOk at q; omega
theorem vok_ref {h : Hs} {v : Vl} (q : VOk h v) (k : v.Kind = 5) : 0 ≤ v.N ∧ v.N < h.Refs.length := by unfold VOk at q; omega
theorem vok_int {h : Hs} {v : Vl} (q : VOk h v) (k : v.Kind = 0) : 0 ≤ v.N ∧ v.N ≤ 65535 := by unfold VOk at q; omega
theorem HOk.cloI {l : List Nd} {h : Hs} (q : HOk l h) {i : Int} (h0 : 0 ≤ i) (h1 : i < h.Clos.length) : CloOk l h.Envs (cC h.Clos i) := by
  have := q.c i.toNat (by omega); rwa [nat_of h0] at this
theorem HOk.twoI {l : List Nd} {h : Hs} (q : HOk l h) {i : Int} (h0 : 0 ≤ i) (h1 : i < h.Twos.length) : VOk h (cT h.Twos i).A ∧ VOk h (cT h.Twos i).B := by
  have := q.t i.toNat (by omega); rwa [nat_of h0] at this
theorem HOk.refI {l : List Nd} {h : Hs} (q : HOk l h) {i : Int} (h0 : 0 ≤ i) (h1 : i < h.Refs.length) : VOk h (cR h.Refs i) := by
  have := q.r i.toNat (by omega); rwa [nat_of h0] at this
theorem call_ok {l : List Nd} (h : nodesOkB l = true) {m : Mc} (q : MOk l m) {i : Int} (i0 : 0 ≤ i) (i1 : i < l.length) {f : Vl} (hf : VOk m.h f) (hk : f.Kind = 1) {v : Vl} (hv : VOk m.h v) : MOk l (callM l m i f v) := by
  have hc := vok_clo hf hk
  obtain ⟨e0, e1, x0, x1, cov, kk⟩ := q.h.cloI hc.1 hc.2
  unfold callM
  generalize cC m.h.Clos f.N = c at e0 e1 x0 x1 cov kk ⊢
  obtain ⟨node, env⟩ := c
  simp only at e0 e1 x0 x1 cov kk ⊢
  obtain ⟨x, rfl⟩ : ∃ x : Nat, node = (x : Int) := ⟨node.toNat, by omega⟩
  have hx : x < l.length := by omega
  rw [Int.toNat_natCast] at kk ⊢
  generalize hr : (if (nd l x).Kind = 6 then (1 : Int) else 0) = r
  have ho := q.h.eo
  have el : (elen m.h) < ((hE m.h ⟨x, r, v, env⟩).Envs.length : Int) := by unfold elen hE; simp; omega
  have el0 : -1 ≤ elen m.h := by unfold elen; omega
  have own : ∃ w, lkp (hE m.h ⟨x, r, v, env⟩).Envs ⟨x, r⟩ (elen m.h) = some w := own_new ho ⟨x, r, v, env⟩ e0 e1
  have ha : 1 ≤ arityN (nd l x).Kind := by
    rcases kk with kk | kk
    · rw [kk]; decide
    · rw [kk.1]; decide
  have hA := par_A h x hx ha
  refine mok_lk q (.hE _ _) (q.h.hE _ hv e0 e1) (.ps _ i0 i1) _ (lk_kid (h' := m.h) hA.1 hA.2.1 hA.2.2 hx el0 el ?_ (cov_new ho ⟨x, r, v, env⟩ e0 e1 cov))
  intro s hs
  unfold bindN at hs
  rcases kk with k3 | ⟨k6, w⟩
  · rw [if_pos k3] at hs
    rw [if_neg (by omega)] at hr
    simp at hs
    subst hs; subst hr
    exact own
  · rw [if_neg (by omega), if_neg (by omega), if_pos k6, if_pos rfl] at hs
    rw [if_pos k6] at hr
    subst hr
    simp at hs
    rcases hs with rfl | rfl
    · exact own
    · exact some_new ho ⟨x, 1, v, env⟩ ⟨x, 0⟩ e0 e1 w
theorem second_ok {l : List Nd} (h : nodesOkB l = true) {m m' : Mc} (q : MOk l m) {f : Fr} (hf : FrOk l m.h f) (e : secondM l m f = some m') : MOk l m' := by
  unfold secondM at e
  simp only at e
  split at e
  · cases e
    exact mok_dn q (.hT _ _) (q.h.hT _ hf.v q.v) _ (.inr (.inr (.inr (.inl ⟨.inl rfl, by simp, by simp [hT]; omega⟩))))
  split at e
  · cases e
    exact mok_dn q (.hT _ _) (q.h.hT _ hf.v q.v) _ (.inr (.inr (.inr (.inl ⟨.inr rfl, by simp, by simp [hT]; omega⟩))))
  split at e
  · cases e
    exact mok_dn q (.hS _ _ _) (q.h.hS _ _ q.v) _ (v0_ok _)
  split at e
  · rename_i c
    cases e
    refine mok_dn q .rfl q.h _ (.inl ⟨rfl, prim_in _ _ _ (vok_int hf.v c.2.1) (vok_int q.v c.2.2)⟩)
  split at e
  · rename_i c
    cases e
    exact call_ok h q hf.n0 hf.n1 hf.v c.2 q.v
  · cases e
theorem take_ok {l : List Nd} {m m' : Mc} (q : MOk l m) {f : Fr} (e : takeM l m f = some m') : MOk l m' := by
  unfold takeM at e
  simp only at e
  split at e
  · rename_i c
    cases e
    have := vok_two q.v (.inl c.2)
    exact mok_dn q .rfl q.h _ (q.h.twoI this.1 this.2).1
  split at e
  · rename_i c
    cases e
    have := vok_two q.v (.inl c.2)
    exact mok_dn q .rfl q.h _ (q.h.twoI this.1 this.2).2
  split at e
  · rename_i c
    cases e
    have := vok_ref q.v c.2
    exact mok_dn q .rfl q.h _ (q.h.refI this.1 this.2)
  split at e
  · rename_i c
    cases e
    exact ⟨q.h, q.f, q.v, .inr (.inr ⟨rfl, c.2⟩)⟩
  · cases e
/-- The second kid, looked at behind a new cell. -/
theorem lk_B0 {l : List Nd} (h : nodesOkB l = true) {hp : Hs} {x : Nat} (hx : x < l.length) (hk : (nd l x).Kind = 5 ∨ (nd l x).Kind = 19) (ho : EOk hp.Envs) {v : Vl} {e : Int} (e0 : -1 ≤ e) (e1 : e < hp.Envs.length) (cov : Cov l hp.Envs x e) : LkOk l (hE hp ⟨x, 0, v, e⟩) (nd l x).B (elen hp) := by
  have ha : arityN (nd l x).Kind = 2 := by rcases hk with k | k <;> rw [k] <;> rfl
  have hB := par_B h x hx (by omega)
  refine lk_kid (h' := hp) hB.1 hB.2.1 hB.2.2 hx (by unfold elen; omega) (by unfold elen hE; simp; omega) ?_ (cov_new ho ⟨x, 0, v, e⟩ e0 e1 cov)
  intro s hs
  unfold bindN at hs
  rw [if_neg (by omega), if_pos hk, if_pos rfl] at hs
  simp at hs
  subst hs
  exact own_new ho ⟨x, 0, v, e⟩ e0 e1
theorem no_binds {n : Nd} {x : Int} (h3 : n.Kind ≠ 3) (h5 : ¬ (n.Kind = 5 ∨ n.Kind = 19)) (h6 : n.Kind ≠ 6) (h14 : n.Kind = 14 → x ≠ n.C) : (bindN n x).2 = [] := by
  unfold bindN
  rw [if_neg h3, if_neg h5, if_neg h6]
  split
  · rename_i k; rw [if_neg (h14 k)]
  · rfl
theorem match_ok {l : List Nd} (h : nodesOkB l = true) {m : Mc} (q : MOk l m) {f : Fr} (hf : FrOk l m.h f) (k : LkOk l m.h f.node f.env) (hk : (nd l f.node.toNat).Kind = 14) (hv : isL m.v) : MOk l (matchM l m f) := by
  obtain ⟨x0, x1, e0, e1, cov⟩ := k
  obtain ⟨w, node, env, fv⟩ := f
  simp only at x0 x1 e0 e1 cov hk
  obtain ⟨x, rfl⟩ : ∃ x : Nat, node = (x : Int) := ⟨node.toNat, by omega⟩
  have hx : x < l.length := by omega
  unfold matchM
  simp only
  rw [Int.toNat_natCast] at hk ⊢
  have ha : arityN (nd l x).Kind = 3 := by rw [hk]; rfl
  have hB := par_B h x hx (by omega)
  have hC := par_C h x hx (by omega)
  have hBC := lt_BC h x hx (by omega)
  have ho := q.h.eo
  split
  · refine mok_lk q .rfl q.h (.ps _ x0 x1) _ (lk_kid (h' := m.h) hB.1 hB.2.1 hB.2.2 hx e0 e1 ?_ cov)
    rw [no_binds (by omega) (by omega) (by omega) (fun _ => by omega)]
    intro r hr; cases hr
  · rename_i nk
    have h4 : m.v.Kind = 4 := by unfold isL at hv; omega
    have ht := vok_two q.v (.inr h4)
    have hw := q.h.twoI ht.1 ht.2
    generalize cT m.h.Twos m.v.N = t at hw ⊢
    obtain ⟨a, b⟩ := t
    simp only at hw ⊢
    have o1 := q.h.hE ⟨x, 0, a, env⟩ hw.1 e0 e1
    have E1 : (hE m.h ⟨x, 0, a, env⟩).Envs.length = m.h.Envs.length + 1 := by simp [hE]
    have f0 : -1 ≤ elen m.h := by unfold elen; omega
    have f1 : elen m.h < (hE m.h ⟨x, 0, a, env⟩).Envs.length := by unfold elen; omega
    have o2 := o1.hE ⟨x, 1, b, elen m.h⟩ (hw.2.le (.hE _ _)) f0 f1
    have c1 : Cov l (hE m.h ⟨x, 0, a, env⟩).Envs x (elen m.h) := cov_new ho ⟨x, 0, a, env⟩ e0 e1 cov
    have w1 : ∃ w, lkp (hE m.h ⟨x, 0, a, env⟩).Envs ⟨x, 0⟩ (elen m.h) = some w := own_new ho ⟨x, 0, a, env⟩ e0 e1
    have el : elen m.h + 1 = ((hE m.h ⟨x, 0, a, env⟩).Envs.length : Int) := by unfold elen; omega
    have c2 : Cov l (hE (hE m.h ⟨x, 0, a, env⟩) ⟨x, 1, b, elen m.h⟩).Envs x (elen m.h + 1) := by
      rw [el]; exact cov_new o1.eo ⟨x, 1, b, elen m.h⟩ f0 f1 c1
    refine mok_lk q ((HLe.hE _ _).trans (.hE _ _)) o2 (.ps _ x0 x1) _ (lk_kid (h' := m.h) hC.1 hC.2.1 hC.2.2 hx (by omega) (by rw [el]; simp [hE]) ?_ c2)
    unfold bindN
    rw [if_neg (by omega), if_neg (by omega), if_neg (by omega), if_pos hk, if_pos rfl]
    intro r hr
    simp at hr
    rw [el]
    rcases hr with rfl | rfl
    · exact own_new o1.eo ⟨x, 1, b, elen m.h⟩ f0 f1
    · exact some_new o1.eo ⟨x, 1, b, elen m.h⟩ ⟨x, 0⟩ f0 f1 w1
theorem first_ok {l : List Nd} (h : nodesOkB l = true) {m m' : Mc} (q : MOk l m) {f : Fr} (hf : FrOk l m.h f) (k : LkOk l m.h f.node f.env) (e : firstM l m f = some m') : MOk l m' := by
  have ho := q.h.eo
  have hx : f.node.toNat < l.length := by have := hf.n0; have := hf.n1; omega
  have hn := nat_of hf.n0
  unfold firstM at e
  simp only at e
  split at e
  · rename_i c
    cases e
    have ha : arityN (nd l f.node.toNat).Kind = 2 := by rcases c with c | c | c | c | c <;> rw [c] <;> rfl
    have hB := par_B h _ hx (by omega)
    refine mok_lk q .rfl q.h (show FrOk l m.h ⟨2, f.node, f.env, m.v⟩ from ⟨hf.n0, hf.n1, q.v, .inr (.inr ⟨rfl, c⟩)⟩) _ (lk_kid (h' := m.h) hB.1 hB.2.1 hB.2.2 hx k.e0 k.e1 ?_ (by rw [hn]; exact k.cov))
    unfold five at c
    rw [no_binds (by omega) (by omega) (by omega) (fun _ => by omega)]
    intro r hr; cases hr
  split at e
  · rename_i c
    cases e
    have := lk_B0 h hx (.inl c) ho (v := m.v) k.e0 k.e1 (by rw [hn]; exact k.cov)
    rw [hn] at this
    exact mok_lk q (.hE _ _) (q.h.hE _ q.v k.e0 k.e1) (.ps _ hf.n0 hf.n1) _ this
  split at e
  · cases e
    exact mok_dn q .rfl q.h _ q.v
  split at e
  · rename_i c
    cases e
    have ha : arityN (nd l f.node.toNat).Kind = 3 := by rw [c.1]; rfl
    have hB := par_B h _ hx (by omega)
    have hC := par_C h _ hx (by omega)
    have nb : ∀ x, ∀ r ∈ (bindN (nd l f.node.toNat) x).2, ∃ v, lkp m.h.Envs ⟨(f.node.toNat : Int), r⟩ f.env = some v := fun x r hr => by
      rw [no_binds (by omega) (by omega) (by omega) (fun _ => by omega)] at hr; cases hr
    refine mok_lk q .rfl q.h (.ps _ hf.n0 hf.n1) _ ?_
    split
    · exact lk_kid (h' := m.h) hC.1 hC.2.1 hC.2.2 hx k.e0 k.e1 (nb _) (by rw [hn]; exact k.cov)
    · exact lk_kid (h' := m.h) hB.1 hB.2.1 hB.2.2 hx k.e0 k.e1 (nb _) (by rw [hn]; exact k.cov)
  split at e
  · rename_i c
    cases e
    exact match_ok h q hf k c.1 c.2
  split at e
  · cases e
    exact mok_dn q (.hR _ _) (q.h.hR _ q.v) _ (.inr (.inr (.inr (.inr ⟨rfl, by simp, by simp [hR]; omega⟩))))
  · exact take_ok q e
theorem back_ok {l : List Nd} (h : nodesOkB l = true) {m m' : Mc} (q : MOk l m) {f : Fr} (hf : FrOk l m.h f) (hd : m.d ≠ 0) (e : backM l m f = some m') : MOk l m' := by
  have ho := q.h.eo
  have hx : f.node.toNat < l.length := by have := hf.n0; have := hf.n1; omega
  have hn := nat_of hf.n0
  unfold backM at e
  split at e
  · rename_i d2
    cases e
    split
    · rename_i c
      have k : LkOk l m.h f.node f.env := by
        rcases hf.w with w | ⟨w, a, b⟩ | ⟨w, a⟩
        · omega
        · exact a
        · omega
      have := lk_B0 h hx (.inr c.2) ho (v := m.v) k.e0 k.e1 (by rw [hn]; exact k.cov)
      rw [hn] at this
      exact mok_lk q (.hE _ _) (q.h.hE _ q.v k.e0 k.e1) (.ps _ hf.n0 hf.n1) _ this
    · exact q
  split at e
  · cases e
    exact mok_dn q .rfl q.h _ q.v
  split at e
  · rename_i w1
    have k : LkOk l m.h f.node f.env := by
      rcases hf.w with w | ⟨w, a, b⟩ | ⟨w, a⟩
      · omega
      · exact a
      · omega
    exact first_ok h q hf k e
  · exact second_ok h q hf e
theorem mem_take {α : Type} {l : List α} {n : Nat} {x : α} (h : x ∈ l.take n) : x ∈ l := List.mem_of_mem_take h
theorem top_mem {m : Mc} (h : m.fr ≠ []) : topF m ∈ m.fr := by
  unfold topF
  have : m.fr.length - 1 < m.fr.length := by have := List.length_pos_iff.2 h; omega
  simp only [List.getD]
  rw [List.getElem?_eq_getElem this]
  exact List.getElem_mem _
theorem step_ok {l : List Nd} (h : nodesOkB l = true) (hc : ClosedP l) {m m' : Mc} (q : MOk l m) (hf : m.d = 0 ∨ m.fr ≠ []) (e : stepM l m = some m') : MOk l m' := by
  unfold stepM at e
  split at e
  · rename_i d0
    cases e
    refine look_ok h hc q ?_
    rcases q.d with d | d | d
    · exact d.2
    · omega
    · omega
  · rename_i d0
    have hf : m.fr ≠ [] := hf.resolve_left d0
    refine back_ok h (m := popM m) ⟨q.h, fun f hf => q.f f (mem_take hf), q.v, ?_⟩ (q.f _ (top_mem hf)) d0 e
    rcases q.d with d | d | d
    · exact absurd d.1 d0
    · exact .inr (.inl d)
    · exact .inr (.inr d)
/-! ### sizes -/
structure SzOk (n : Nat) (m : Mc) : Prop where
  e : m.h.Envs.length ≤ 2 * n
  c : m.h.Clos.length ≤ n
  t : m.h.Twos.length ≤ n
  r : m.h.Refs.length ≤ n
  f : m.fr.length ≤ n
  v : m.ev.length ≤ 2 * n
theorem sz_look (l : List Nd) {n : Nat} {m : Mc} (q : SzOk n m) : SzOk (n + 1) (lookM l m) := by
  obtain ⟨e, c, t, r, f, v⟩ := q
  unfold lookM
  simp only
  repeat' split
  all_goals (constructor <;> simp [dn, lkM, hC, hE] <;> omega)
theorem sz_second (l : List Nd) {n : Nat} {m m' : Mc} (q : SzOk n m) {g : Fr} (z : secondM l m g = some m') : SzOk (n + 1) m' := by
  obtain ⟨e, c, t, r, f, v⟩ := q
  unfold secondM callM at z
  simp only at z
  repeat' split at z
  all_goals first
    | cases z; done
    | (simp only [Option.some.injEq] at z; subst z; constructor <;> simp [dn, lkM, hC, hE, hT, hR, hS] <;> omega)
theorem sz_first (l : List Nd) {n : Nat} {m m' : Mc} (q : SzOk n m) {g : Fr} (z : firstM l m g = some m') : SzOk (n + 1) m' := by
  obtain ⟨e, c, t, r, f, v⟩ := q
  unfold firstM takeM matchM at z
  simp only at z
  repeat' split at z
  all_goals first
    | cases z; done
    | (simp only [Option.some.injEq] at z; subst z; constructor <;> simp [dn, lkM, hC, hE, hT, hR, hS] <;> omega)
theorem sz_back (l : List Nd) {n : Nat} {m m' : Mc} (q : SzOk n m) {g : Fr} (z : backM l m g = some m') : SzOk (n + 1) m' := by
  have q0 := q
  obtain ⟨e, c, t, r, f, v⟩ := q
  unfold backM at z
  split at z
  · simp only [Option.some.injEq] at z
    subst z
    split
    · constructor <;> simp [dn, lkM, hC, hE, hT, hR, hS] <;> omega
    · constructor <;> omega
  split at z
  · simp only [Option.some.injEq] at z
    subst z
    constructor <;> simp [dn, lkM] <;> omega
  split at z
  · exact sz_first l q0 z
  · exact sz_second l q0 z
theorem sz_step {l : List Nd} {n : Nat} {m m' : Mc} (q : SzOk n m) (e : stepM l m = some m') : SzOk (n + 1) m' := by
  unfold stepM at e
  split at e
  · cases e; exact sz_look l q
  · refine sz_back l (m := popM m) ⟨q.e, q.c, q.t, q.r, ?_, q.v⟩ e
    have := q.f
    simp [popM]; omega
end Go.Proofs.YtifomiglajcanaaGreatDoorE

namespace Go.Proofs.YtifomiglajcanaaGreatDoorE
open Go.Ev Go.RowKit
set_option linter.unusedVariables false
set_option linter.unusedSimpArgs false
def endP (m : Mc) : Prop := m.d ≠ 0 ∧ m.fr.length = 0
instance (m : Mc) : Decidable (endP m) := inferInstanceAs (Decidable (_ ∧ _))
def endK (m : Mc) : Int := if m.d = 1 then 1 else 2
def runM (l : List Nd) : Nat → Nat → Mc → Int × Mc × Nat
  | 0, s, m => if endP m then (endK m, m, s) else (3, m, s)
  | n + 1, s, m => if endP m then (endK m, m, s) else (match stepM l m with | none => (4, m, s + 1) | some m' => runM l n (s + 1) m')
def startM (l : List Nd) : Mc := ⟨0, (l.length : Int) - 1, -1, v0, [], ⟨[], [], [], []⟩, []⟩
theorem endK_ne (m : Mc) : endK m ≠ 3 ∧ endK m ≠ 4 := by unfold endK; split <;> decide
theorem not_end {m : Mc} (h : ¬ endP m) : m.d = 0 ∨ m.fr ≠ [] := by
  unfold endP at h
  by_cases d : m.d = 0
  · exact .inl d
  · exact .inr fun e => h ⟨d, by rw [e]; rfl⟩
theorem start_ok {l : List Nd} (h : nodesOkB l = true) : MOk l (startM l) ∧ SzOk 0 (startM l) := by
  have hl := ok_len h
  refine ⟨⟨⟨fun i hi => by simp [startM] at hi, fun i hi => by simp [startM] at hi, fun i hi => by simp [startM] at hi, fun i hi => by simp [startM] at hi, fun i hi => by simp [startM] at hi⟩, fun f hf => by simp [startM] at hf, v0_ok _, .inl ⟨rfl, ?_⟩⟩, ?_⟩
  · refine ⟨?_, ?_, ?_, ?_, ?_⟩
    · show (0 : Int) ≤ (l.length : Int) - 1; omega
    · show (l.length : Int) - 1 < l.length; omega
    · exact Int.le_refl _
    · show (-1 : Int) < 0; omega
    · refine cov_root ?_
      have := parOf_gt h ((l.length : Int) - 1)
      have := parOf_lt l ((l.length : Int) - 1)
      show parOf l ((l.length : Int) - 1) < 0
      omega
  · constructor <;> simp [startM]
theorem run_ok {l : List Nd} (h : nodesOkB l = true) (hc : ClosedP l) : ∀ (n s : Nat) (m : Mc), MOk l m → SzOk s m → ∀ {k m1 t}, runM l n s m = (k, m1, t) → MOk l m1 ∧ SzOk t m1 ∧ s ≤ t ∧ t ≤ s + n := by
  intro n
  induction n with
  | zero =>
    intro s m q z k m1 t e
    rw [runM] at e
    split at e <;> (cases e; exact ⟨q, z, Nat.le_refl _, Nat.le_refl _⟩)
  | succ n ih =>
    intro s m q z k m1 t e
    rw [runM] at e
    split at e
    · cases e; exact ⟨q, z, Nat.le_refl _, by omega⟩
    · rename_i ne
      cases hs : stepM l m with
      | none =>
        rw [hs] at e
        cases e
        obtain ⟨a, b, c, d, f, g⟩ := z
        exact ⟨q, ⟨by omega, by omega, by omega, by omega, by omega, by omega⟩, by omega, by omega⟩
      | some m' =>
        rw [hs] at e
        obtain ⟨a, b, c, d⟩ := ih (s + 1) m' (step_ok h hc q (not_end ne) hs) (sz_step z hs) e
        exact ⟨a, b, by omega, by omega⟩
/-- What ended does so in the same way with more fuel. -/
theorem run_more (l : List Nd) (d : Nat) : ∀ (n s : Nat) (m : Mc) {k m1 t}, runM l n s m = (k, m1, t) → k ≠ 3 → runM l (n + d) s m = (k, m1, t) := by
  intro n
  induction n with
  | zero =>
    intro s m k m1 t e hk
    rw [runM] at e
    split at e
    · rename_i he
      rw [← e]
      cases d with
      | zero => rw [runM, if_pos he]
      | succ d => rw [show 0 + (d + 1) = d + 1 by omega, runM, if_pos he]
    · cases e; exact absurd rfl hk
  | succ n ih =>
    intro s m k m1 t e hk
    rw [show n + 1 + d = (n + d) + 1 by omega, runM]
    rw [runM] at e
    split at e
    · rename_i he; rw [if_pos he]; exact e
    · rename_i he
      rw [if_neg he]
      cases hs : stepM l m with
      | none => rw [hs] at e; exact e
      | some m' => rw [hs] at e; exact ih _ _ e hk
/-- What did not goes on from where it was. -/
theorem run_on (l : List Nd) (d : Nat) : ∀ (n s : Nat) (m : Mc) {m1 t}, runM l n s m = (3, m1, t) → t = s + n ∧ runM l (n + d) s m = runM l d t m1 := by
  intro n
  induction n with
  | zero =>
    intro s m m1 t e
    rw [runM] at e
    split at e
    · exact absurd (congrArg Prod.fst e) (endK_ne m).1
    · cases e; exact ⟨rfl, by rw [Nat.zero_add]⟩
  | succ n ih =>
    intro s m m1 t e
    rw [show n + 1 + d = (n + d) + 1 by omega, runM]
    rw [runM] at e
    split at e
    · exact absurd (congrArg Prod.fst e) (endK_ne m).1
    · rename_i he
      rw [if_neg he]
      cases hs : stepM l m with
      | none => rw [hs] at e; cases e
      | some m' =>
        rw [hs] at e
        obtain ⟨a, b⟩ := ih _ _ e
        exact ⟨by omega, b⟩
theorem ev_look (l : List Nd) (m : Mc) : ∃ F, (lookM l m).ev = m.ev ++ F := by
  unfold lookM
  simp only
  repeat' split
  all_goals first | exact ⟨_, rfl⟩ | exact ⟨[], by simp [lkM]⟩
theorem ev_second (l : List Nd) {m m' : Mc} {g : Fr} (z : secondM l m g = some m') : ∃ F, m'.ev = m.ev ++ F := by
  unfold secondM callM at z
  simp only at z
  repeat' split at z
  all_goals first
    | cases z; done
    | (simp only [Option.some.injEq] at z; subst z; first | exact ⟨_, rfl⟩ | exact ⟨[], by simp [lkM]⟩)
theorem ev_first (l : List Nd) {m m' : Mc} {g : Fr} (z : firstM l m g = some m') : ∃ F, m'.ev = m.ev ++ F := by
  unfold firstM takeM matchM at z
  simp only at z
  repeat' split at z
  all_goals first
    | cases z; done
    | (simp only [Option.some.injEq] at z; subst z; first | exact ⟨_, rfl⟩ | exact ⟨[], by simp [lkM]⟩ | (split <;> exact ⟨[], by simp [lkM]⟩))
theorem ev_back (l : List Nd) {m m' : Mc} {g : Fr} (z : backM l m g = some m') : ∃ F, m'.ev = m.ev ++ F := by
  unfold backM at z
  split at z
  · simp only [Option.some.injEq] at z
    subst z
    split <;> exact ⟨[], by simp [lkM]⟩
  split at z
  · simp only [Option.some.injEq] at z
    subst z
    exact ⟨_, rfl⟩
  split at z
  · exact ev_first l z
  · exact ev_second l z
theorem step_ev {l : List Nd} {m m' : Mc} (e : stepM l m = some m') : ∃ F, m'.ev = m.ev ++ F := by
  unfold stepM at e
  split at e
  · cases e; exact ev_look l m
  · obtain ⟨F, hF⟩ := ev_back l e
    exact ⟨F, hF⟩
theorem run_ev (l : List Nd) : ∀ (n s : Nat) (m : Mc) {k m1 t}, runM l n s m = (k, m1, t) → ∃ F, m1.ev = m.ev ++ F := by
  intro n
  induction n with
  | zero =>
    intro s m k m1 t e
    rw [runM] at e
    split at e <;> (cases e; exact ⟨[], by simp⟩)
  | succ n ih =>
    intro s m k m1 t e
    rw [runM] at e
    split at e
    · cases e; exact ⟨[], by simp⟩
    · cases hs : stepM l m with
      | none => rw [hs] at e; cases e; exact ⟨[], by simp⟩
      | some m' =>
        rw [hs] at e
        obtain ⟨F, hF⟩ := step_ev hs
        obtain ⟨G, hG⟩ := ih _ _ e
        exact ⟨F ++ G, by rw [hG, hF, List.append_assoc]⟩
end Go.Proofs.YtifomiglajcanaaGreatDoorE
