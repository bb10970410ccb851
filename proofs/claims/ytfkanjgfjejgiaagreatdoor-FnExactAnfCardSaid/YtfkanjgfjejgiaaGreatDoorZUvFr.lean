/- New names: the names in use, the next one that is not. -/
import Derived.Test.YtfkanjgfjejgiaaGreatDoorZUvFlat
import Derived.Lib.Strings
set_option linter.unusedSimpArgs false
set_option linter.unusedVariables false
namespace Go.Proofs.YtfkanjgfjejgiaaGreatDoorE
open Go.Ev Go.RowKit
set_option linter.unusedVariables false
set_option linter.unusedSimpArgs false
def freshT (n : Nat) : ByteArray := (spec_FreshName.f 20 (n : Int)).getD ⟨#[]⟩
def eqO (o : Option ByteArray) (s : ByteArray) : Bool := match o with | some a => a.toList == s.toList | none => false
def decN (s : ByteArray) : Nat := (s.toList.drop 2).foldl (fun a c => a * 26 + (c.toNat - 97)) 0
theorem fresh_chk (K : Nat) : ((List.range 700).all fun n => eqO (spec_FreshName.f (K + 20) (n : Int)) (freshT n) && (eqO (impl_FreshName.f (K + 20) (n : Int)) (freshT n) && (Nat.beq (decN (freshT n)) n && nameB (freshT n)))) = true := by kernel_rfl
theorem bytes_ext {a b : ByteArray} (h : a.toList = b.toList) : a = b := by
  rw [Lib.toList_data, Lib.toList_data] at h
  obtain ⟨⟨a⟩⟩ := a
  obtain ⟨⟨b⟩⟩ := b
  simp at h
  rw [h]
theorem eqO_eq {o : Option ByteArray} {s : ByteArray} (h : eqO o s = true) : o = some s := by
  unfold eqO at h
  split at h
  · rw [bytes_ext (eq_of_beq h)]
  · cases h
theorem fresh_all {n : Nat} (h : n < 700) {K : Nat} (hK : 20 ≤ K) : spec_FreshName.f K (n : Int) = some (freshT n) ∧ impl_FreshName.f K (n : Int) = some (freshT n) ∧ decN (freshT n) = n ∧ nameB (freshT n) = true := by
  obtain ⟨k, rfl⟩ : ∃ k, K = k + 20 := ⟨K - 20, by omega⟩
  have := List.all_eq_true.1 (fresh_chk k) n (List.mem_range.2 h)
  simp only [Bool.and_eq_true] at this
  exact ⟨eqO_eq this.1, eqO_eq this.2.1, Nat.eq_of_beq_eq_true this.2.2.1, this.2.2.2⟩
/-! ### names in use -/
def usedN (n : Nd) (s : ByteArray) : Bool := (n.Name.toList == s.toList) || (n.Other.toList == s.toList)
def usedB (l : List Nd) (s : ByteArray) : Bool := l.any fun n => usedN n s
def namesL : List Nd → List ByteArray
  | [] => []
  | n :: l => n.Name :: n.Other :: namesL l
theorem namesL_len : ∀ l : List Nd, (namesL l).length = 2 * l.length
  | [] => rfl
  | n :: l => by simp [namesL, namesL_len l]; omega
theorem namesL_app : ∀ a b : List Nd, namesL (a ++ b) = namesL a ++ namesL b
  | [], b => rfl
  | n :: a, b => by simp [namesL, namesL_app a b]
theorem namesL_any : ∀ (l : List Nd) (s : ByteArray), ((namesL l).any fun x => x.toList == s.toList) = usedB l s
  | [], s => rfl
  | n :: l, s => by
    have := namesL_any l s
    unfold usedB at this ⊢
    simp only [namesL, List.any_cons, this, usedN, Bool.or_assoc]
theorem or3 (a b c : Bool) : (if a = true then (if true = true then some (.inl true) else some (if c = true then .inl true else .inr ())) else (if b = true then some (.inl true) else some (if c = true then .inl true else .inr ()))) = (some (if ((a || b) || c) = true then .inl true else .inr ()) : Option (Bool ⊕ Unit)) := by cases a <;> cases b <;> cases c <;> rfl
theorem or2 (a c : Bool) : (if a = true then some (.inl true) else some (if c = true then .inl true else .inr ())) = (some (if (a || c) = true then .inl true else .inr ()) : Option (Bool ⊕ Unit)) := by cases a <;> cases c <;> rfl
theorem used_l0 (s : ByteArray) (K : Nat) (r : List Nd) : ∀ (k : Nat) (p : List Nd), r.length < k → p.length + r.length ≤ 1000000 → spec_l13Used.l0 (p ++ r) s K k p.length = some (if usedB r s = true then .inl true else .inr ()) := by
  induction r with
  | nil =>
    intro k p hk hl
    obtain ⟨k, rfl⟩ := succ_of hk
    rw [spec_l13Used.l0, if_neg (by simp)]; rfl
  | cons n r ih =>
    intro k p hk hl
    obtain ⟨k, rfl⟩ := succ_of hk
    simp only [List.length_cons] at hk hl
    rw [spec_l13Used.l0, if_pos (by simp; omega)]
    simp only [jn]
    rw [at_mid, Option.bind_some]
    have e : (if (n.Name.toList == s.toList) = true then (if true = true then some (.inl true) else spec_l13Used.l0 (p ++ n :: r) s K k (w64 ((p.length : Int) + 1))) else (if (n.Other.toList == s.toList) = true then some (.inl true) else spec_l13Used.l0 (p ++ n :: r) s K k (w64 ((p.length : Int) + 1)))) = (some (if usedB (n :: r) s = true then .inl true else .inr ()) : Option (Bool ⊕ Unit)) := by
      have e1 : spec_l13Used.l0 (p ++ n :: r) s K k (w64 ((p.length : Int) + 1)) = some (if usedB r s = true then .inl true else .inr ()) := by
        have := ih k (p ++ [n]) (by omega) (by simp; omega)
        rw [w64_of (by omega) (by omega), show (p.length : Int) + 1 = ((p ++ [n]).length : Int) by simp, show p ++ n :: r = (p ++ [n]) ++ r by simp]
        exact this
      rw [e1]
      exact or3 (n.Name.toList == s.toList) (n.Other.toList == s.toList) (usedB r s)
    exact e
theorem spec_used (l : List Nd) (s : ByteArray) (hl : l.length ≤ 1000000) (K : Nat) (hK : l.length < K) : spec_l13Used.f K l s = some (usedB l s) := by
  unfold spec_l13Used.f
  simp only [jn]
  have := used_l0 s K l K [] (by omega) (by simp; omega)
  rw [List.nil_append] at this
  rw [show (0 : Int) = (([] : List Nd).length : Int) from rfl, this]
  cases usedB l s <;> rfl
theorem has_l0 (s : ByteArray) (K : Nat) (r : List ByteArray) : ∀ (k : Nat) (p : List ByteArray), r.length < k → p.length + r.length ≤ 1000000 → impl_hasText.l0 (p ++ r) s K k p.length = some (if (r.any fun x => x.toList == s.toList) = true then .inl true else .inr ()) := by
  induction r with
  | nil =>
    intro k p hk hl
    obtain ⟨k, rfl⟩ := succ_of hk
    rw [impl_hasText.l0, if_neg (by simp)]; rfl
  | cons n r ih =>
    intro k p hk hl
    obtain ⟨k, rfl⟩ := succ_of hk
    simp only [List.length_cons] at hk hl
    rw [impl_hasText.l0, if_pos (by simp; omega), at_mid, Option.bind_some]
    have e1 : impl_hasText.l0 (p ++ n :: r) s K k (w64 ((p.length : Int) + 1)) = some (if (r.any fun x => x.toList == s.toList) = true then .inl true else .inr ()) := by
      have := ih k (p ++ [n]) (by omega) (by simp; omega)
      rw [w64_of (by omega) (by omega), show (p.length : Int) + 1 = ((p ++ [n]).length : Int) by simp, show p ++ n :: r = (p ++ [n]) ++ r by simp]
      exact this
    rw [e1]
    exact or2 (n.toList == s.toList) (r.any fun x => x.toList == s.toList)
theorem impl_has (l : List ByteArray) (s : ByteArray) (hl : l.length ≤ 1000000) (K : Nat) (hK : l.length < K) : impl_hasText.f K l s = some (l.any fun x => x.toList == s.toList) := by
  unfold impl_hasText.f
  simp only [jn]
  have := has_l0 s K l K [] (by omega) (by simp; omega)
  rw [List.nil_append] at this
  rw [show (0 : Int) = (([] : List ByteArray).length : Int) from rfl, this]
  cases (l.any fun x => x.toList == s.toList) <;> rfl
/-! ### the next name that is not in use -/
def cnt : List Nat → Nat → Nat
  | [], _ => 0
  | x :: v, k => (if k ≤ x then 1 else 0) + cnt v k
theorem cnt_anti : ∀ (v : List Nat) (k : Nat), cnt v (k + 1) ≤ cnt v k
  | [], _ => Nat.le_refl _
  | x :: v, k => by
    have := cnt_anti v k
    simp only [cnt]
    split <;> split <;> omega
theorem cnt_mem : ∀ (v : List Nat) (k : Nat), k ∈ v → cnt v (k + 1) + 1 ≤ cnt v k
  | x :: v, k, h => by
    have h1 := cnt_anti v k
    simp only [cnt]
    rcases List.mem_cons.1 h with rfl | h
    · rw [if_neg (by omega), if_pos (Nat.le_refl _)]; omega
    · have := cnt_mem v k h
      split <;> split <;> omega
theorem cnt_len : ∀ (v : List Nat) (k : Nat), cnt v k ≤ v.length
  | [], _ => Nat.le_refl _
  | x :: v, k => by
    have := cnt_len v k
    simp only [cnt, List.length_cons]
    split <;> omega
theorem pigeon (v : List Nat) : ∀ (n k : Nat), cnt v k ≤ n → ∃ j, k ≤ j ∧ j ≤ k + cnt v k ∧ j ∉ v
  | 0, k, h => ⟨k, Nat.le_refl _, by omega, fun hk => by have := cnt_mem v k hk; omega⟩
  | n + 1, k, h => by
    by_cases hk : k ∈ v
    · have := cnt_mem v k hk
      obtain ⟨j, h1, h2, h3⟩ := pigeon v n (k + 1) (by omega)
      exact ⟨j, by omega, by omega, h3⟩
    · exact ⟨k, Nat.le_refl _, by omega, hk⟩
/-- How many of the texts are numbers from k on. -/
def phi (u : List ByteArray) (k : Nat) : Nat := cnt (u.map decN) k
theorem phi_len (u : List ByteArray) (k : Nat) : phi u k ≤ u.length := by have := cnt_len (u.map decN) k; simpa [phi] using this
def inU (u : List ByteArray) (k : Nat) : Bool := u.any fun x => x.toList == (freshT k).toList
theorem inU_mem {u : List ByteArray} {k : Nat} (hk : k < 700) (h : inU u k = true) : k ∈ u.map decN := by
  obtain ⟨x, hx, e⟩ := List.any_eq_true.1 h
  have ex : x = freshT k := bytes_ext (eq_of_beq e)
  exact List.mem_map.2 ⟨x, hx, by rw [ex]; exact (fresh_all hk (K := 20) (by omega)).2.2.1⟩
theorem fresh_free (u : List ByteArray) (k : Nat) (h : k + phi u k < 700) : ∃ j, k ≤ j ∧ j ≤ k + phi u k ∧ inU u j = false := by
  obtain ⟨j, h1, h2, h3⟩ := pigeon (u.map decN) _ k (Nat.le_refl _)
  refine ⟨j, h1, h2, ?_⟩
  cases hc : inU u j with
  | false => rfl
  | true => exact absurd (inU_mem (by unfold phi at h; omega) hc) h3
def findU (u : List ByteArray) : Nat → Nat → Nat
  | 0, v => v
  | d + 1, v => if inU u v = true then findU u d (v + 1) else v
theorem findU_ok (u : List ByteArray) : ∀ (d v : Nat), (∃ j, v ≤ j ∧ j < v + d ∧ inU u j = false) → v + d ≤ 700 → inU u (findU u d v) = false ∧ v ≤ findU u d v ∧ findU u d v < v + d ∧ findU u d v + phi u (findU u d v) ≤ v + phi u v := by
  intro d
  induction d with
  | zero => rintro v ⟨j, h1, h2, _⟩; omega
  | succ d ih =>
    rintro v ⟨j, h1, h2, h3⟩ hd
    rw [findU]
    by_cases hv : inU u v = true
    · rw [if_pos hv]
      have hj : v ≠ j := fun e => by rw [e, h3] at hv; cases hv
      have hm := cnt_mem (u.map decN) v (inU_mem (by omega) hv)
      obtain ⟨a, b, c, e⟩ := ih (v + 1) ⟨j, by omega, by omega, h3⟩ (by omega)
      refine ⟨a, by omega, by omega, ?_⟩
      unfold phi at e ⊢
      omega
    · rw [if_neg hv]
      exact ⟨by simpa using hv, Nat.le_refl _, by omega, Nat.le_refl _⟩
/-- The next number from k on whose name is in no use. -/
def nextU (u : List ByteArray) (k : Nat) : Nat := findU u (phi u k + 1) k
theorem nextU_ok (u : List ByteArray) (k : Nat) (h : k + phi u k < 699) : inU u (nextU u k) = false ∧ k ≤ nextU u k ∧ nextU u k ≤ k + phi u k ∧ nextU u k + 1 + phi u (nextU u k + 1) ≤ k + phi u k + 1 := by
  obtain ⟨j, h1, h2, h3⟩ := fresh_free u k (by omega)
  obtain ⟨a, b, c, e⟩ := findU_ok u (phi u k + 1) k ⟨j, h1, by omega, h3⟩ (by omega)
  have := cnt_anti (u.map decN) (findU u (phi u k + 1) k)
  refine ⟨a, b, by unfold nextU; omega, ?_⟩
  unfold nextU phi at *
  omega
theorem spec_next_l1 (l : List Nd) (hl : l.length ≤ 1000) (K : Nat) (hK : 2000 ≤ K) : ∀ (d v k : Nat), (∃ j, v ≤ j ∧ j < v + d ∧ inU (namesL l) j = false) → v + d ≤ 700 → d < k →
    spec_l13Part.l1 l K k (v : Int) = some ((findU (namesL l) d v : Nat) : Int) := by
  intro d
  induction d with
  | zero => rintro v k ⟨j, h1, h2, _⟩; omega
  | succ d ih =>
    rintro v k ⟨j, h1, h2, h3⟩ hd hk
    obtain ⟨k, rfl⟩ := succ_of (show 0 < k by omega)
    rw [spec_l13Part.l1, (fresh_all (n := v) (by omega) (by omega)).1, Option.bind_some, spec_used l _ (by omega) K (by omega), Option.bind_some, ← namesL_any, findU]
    show (if inU (namesL l) v = true then _ else _) = some (((if inU (namesL l) v = true then _ else _ : Nat)) : Int)
    by_cases hv : inU (namesL l) v = true
    · rw [if_pos hv, if_pos hv, w64_of (by omega) (by omega)]
      have hj : v ≠ j := fun e => by rw [e, h3] at hv; cases hv
      exact ih (v + 1) k ⟨j, by omega, by omega, h3⟩ (by omega) (by omega)
    · rw [if_neg hv, if_neg hv]
theorem impl_next_l0 (u : List ByteArray) (hu : u.length ≤ 1000) (K : Nat) (hK : 2000 ≤ K) : ∀ (d v k : Nat), (∃ j, v ≤ j ∧ j < v + d ∧ inU u j = false) → v + d ≤ 700 → d < k →
    impl_namer_next.l0 K k ⟨u, (v : Int)⟩ = some ⟨u, ((findU u d v : Nat) : Int)⟩ := by
  intro d
  induction d with
  | zero => rintro v k ⟨j, h1, h2, _⟩; omega
  | succ d ih =>
    rintro v k ⟨j, h1, h2, h3⟩ hd hk
    obtain ⟨k, rfl⟩ := succ_of (show 0 < k by omega)
    rw [impl_namer_next.l0]
    simp only
    rw [(fresh_all (n := v) (by omega) (by omega)).2.1, Option.bind_some, impl_has u _ (by omega) K (by omega), Option.bind_some, findU]
    show (if inU u v = true then _ else _) = some (⟨u, (((if inU u v = true then _ else _ : Nat)) : Int)⟩ : impl_namer)
    by_cases hv : inU u v = true
    · rw [if_pos hv, if_pos hv, w64_of (by omega) (by omega)]
      have hj : v ≠ j := fun e => by rw [e, h3] at hv; cases hv
      exact ih (v + 1) k ⟨j, by omega, by omega, h3⟩ (by omega) (by omega)
    · rw [if_neg hv, if_neg hv]
theorem impl_next (u : List ByteArray) (hu : u.length ≤ 1000) (K : Nat) (hK : 2000 ≤ K) (k : Nat) (h : k + phi u k < 699) : impl_namer_next.f K ⟨u, (k : Int)⟩ = some (freshT (nextU u k), ⟨u, ((nextU u k + 1 : Nat) : Int)⟩) := by
  obtain ⟨j, h1, h2, h3⟩ := fresh_free u k (by omega)
  have hn := nextU_ok u k (by omega)
  unfold impl_namer_next.f
  simp only [jn]
  rw [impl_next_l0 u hu K hK (phi u k + 1) k K ⟨j, h1, by omega, h3⟩ (by omega) (by omega), Option.bind_some]
  show (impl_FreshName.f K (w64 (w64 (((nextU u k : Nat) : Int) + 1) - 1))).bind _ = _
  rw [w64_of (x := ((nextU u k : Nat) : Int) + 1) (by omega) (by omega), w64_of (by omega) (by omega), show ((nextU u k : Nat) : Int) + 1 - 1 = ((nextU u k : Nat) : Int) by omega, (fresh_all (by omega) (by omega)).2.1, Option.bind_some]
  unfold nextU at hn ⊢
  simp
  exact w64_of (by omega) (by omega)
theorem spec_next (l : List Nd) (hl : l.length ≤ 300) (K : Nat) (hK : 2000 ≤ K) (k : Nat) (h : k + phi (namesL l) k < 699) : spec_l13Part.l1 l K K (k : Int) = some ((nextU (namesL l) k : Nat) : Int) := by
  obtain ⟨j, h1, h2, h3⟩ := fresh_free (namesL l) k (by omega)
  exact spec_next_l1 l (by omega) K hK (phi (namesL l) k + 1) k K ⟨j, h1, by omega, h3⟩ (by omega) (by omega)
end Go.Proofs.YtfkanjgfjejgiaaGreatDoorE
