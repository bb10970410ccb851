/- Canonical names: free names, and the whole. -/
import Derived.Test.YtfkanjgfjejgiaaGreatDoorZUvFr
import Derived.Test.YtfkanjgfjejgiaaGreatDoorZUvBinds
import Derived.Test.YtfkanjgfjejgiaaGreatDoorEvPure
set_option linter.unusedSimpArgs false
set_option linter.unusedVariables false
namespace Go.Proofs.YtfkanjgfjejgiaaGreatDoorE
open Go.Ev Go.RowKit
set_option linter.unusedVariables false
set_option linter.unusedSimpArgs false
def eqB (x b : Bi) : Bool := decide (x.Node = b.Node) && (decide (x.Role = b.Role) && true)
theorem eqB_iff (x b : Bi) : eqB x b = true ↔ x = b := by
  unfold eqB
  cases x; cases b
  simp
def usesFrom (l : List Nd) (b : Bi) : Nat → Nat → List Int → List Int
  | 0, _, y => y
  | d + 1, i, y => usesFrom l b d (i + 1) (if (nd l i).Kind = 1 ∧ eqB (binderB l i) b = true then y ++ [(i : Int)] else y)
theorem uses_app (l : List Nd) (b : Bi) : ∀ (d i : Nat) (y : List Int), usesFrom l b d i y = y ++ usesFrom l b d i []
  | 0, i, y => by simp [usesFrom]
  | d + 1, i, y => by
    simp only [usesFrom]
    by_cases hc : (nd l i).Kind = 1 ∧ eqB (binderB l i) b = true
    · rw [if_pos hc, if_pos hc, uses_app l b d (i + 1) (y ++ [(i : Int)]), uses_app l b d (i + 1) ([] ++ [(i : Int)])]
      simp
    · rw [if_neg hc, if_neg hc, uses_app l b d (i + 1) y]
theorem uses_lt (l : List Nd) (b : Bi) : ∀ (d i : Nat) (y : List Int), (∀ z ∈ y, 0 ≤ z ∧ z < (i : Int)) → ∀ z ∈ usesFrom l b d i y, 0 ≤ z ∧ z < ((i + d : Nat) : Int)
  | 0, i, y, h, z, hz => by have := h z hz; simpa using this
  | d + 1, i, y, h, z, hz => by
    rw [usesFrom] at hz
    have := uses_lt l b d (i + 1) _ (fun z hz => by
      split at hz
      · rcases List.mem_append.1 hz with hz | hz
        · have := h z hz; omega
        · simp at hz; omega
      · have := h z hz; omega) z hz
    rwa [show i + 1 + d = i + (d + 1) by omega] at this
theorem spec_uses_l0 (l : List Nd) (b : Bi) (hb : b.Node ≥ 0) (h : nodesOkB l = true) (hsm : ∀ n ∈ l, small n) (K : Nat) (hK : big ≤ K) (d : Nat) : ∀ (k i : Nat) (y : List Int), i + d = l.length → d < k → y.length ≤ i → spec_UsesOf.l0 l b K k i y = some (usesFrom l b d i y) := by
  have hlen := ok_len h
  induction d with
  | zero =>
    intro k i y hi hk hy
    obtain ⟨k, rfl⟩ := succ_of (show 0 < k by omega)
    rw [spec_UsesOf.l0]
    simp only [jn]
    rw [if_neg (by omega), if_neg (by simp), usesFrom]
  | succ d ih =>
    intro k i y hi hk hy
    obtain ⟨k, rfl⟩ := succ_of (show 0 < k by omega)
    rw [spec_UsesOf.l0]
    simp only [jn]
    rw [if_pos (by omega), spec_nodesOk l (by omega) hsm K hK, Option.bind_some, h, if_pos rfl, decide_eq_true hb, if_pos rfl, at_nd l i (by omega), Option.bind_some, w64_of (by omega) (by omega), usesFrom]
    by_cases h1 : (nd l i).Kind = 1
    · rw [if_pos h1, spec_binder h hsm i (by omega) K hK, Option.bind_some]
      show (if eqB (binderB l i) b = true then _ else _) = _
      by_cases h2 : eqB (binderB l i) b = true
      · rw [if_pos h2, if_pos ⟨h1, h2⟩, gd_pos (by omega)]
        exact ih k (i + 1) _ (by omega) (by omega) (by simp; omega)
      · rw [if_neg h2, if_neg (fun q => h2 q.2)]
        exact ih k (i + 1) y (by omega) (by omega) (by omega)
    · rw [if_neg h1, if_neg (by simp), if_neg (fun q => h1 q.1)]
      exact ih k (i + 1) y (by omega) (by omega) (by omega)
theorem spec_uses (l : List Nd) (b : Bi) (hb : b.Node ≥ 0) (h : nodesOkB l = true) (hsm : ∀ n ∈ l, small n) (K : Nat) (hk : big ≤ K) : spec_UsesOf.f K l b = some (usesFrom l b l.length 0 []) := by
  have hk' := hk
  unfold big at hk'
  have hlen := ok_len h
  unfold spec_UsesOf.f
  simp only [jn]
  have := spec_uses_l0 l b hb h hsm K hk l.length K 0 [] (by omega) (by omega) (by simp)
  rw [show ((0 : Nat) : Int) = 0 from rfl] at this
  rw [this]; rfl
/-! ### names set -/
def setN (s : ByteArray) (o : List Nd) (i : Int) : List Nd := o.set i.toNat ⟨(nd o i.toNat).Kind, (nd o i.toNat).A, (nd o i.toNat).B, (nd o i.toNat).C, (nd o i.toNat).N, s, (nd o i.toNat).Other⟩
theorem setN_len (s : ByteArray) (o : List Nd) (i : Int) : (setN s o i).length = o.length := by simp [setN]
theorem fold_len (s : ByteArray) : ∀ (us : List Int) (o : List Nd), (us.foldl (setN s) o).length = o.length
  | [], o => rfl
  | i :: us, o => by rw [List.foldl_cons, fold_len s us, setN_len]
def headN (s : ByteArray) (b : Bi) (o : List Nd) : List Nd := if b.Role = 0 then setN s o b.Node else o.set b.Node.toNat ⟨(nd o b.Node.toNat).Kind, (nd o b.Node.toNat).A, (nd o b.Node.toNat).B, (nd o b.Node.toNat).C, (nd o b.Node.toNat).N, (nd o b.Node.toNat).Name, s⟩
theorem headN_len (s : ByteArray) (b : Bi) (o : List Nd) : (headN s b o).length = o.length := by
  unfold headN; split
  · exact setN_len ..
  · simp
theorem at_ndI (o : List Nd) (i : Int) (h0 : 0 ≤ i) (h1 : i < o.length) : at_ o i = some (nd o i.toNat) := by
  have := at_nd o i.toNat (by omega)
  rwa [show ((i.toNat : Nat) : Int) = i by omega] at this
theorem set_l0 (s : ByteArray) (K : Nat) (r : List Int) : ∀ (k : Nat) (p : List Int) (o : List Nd), r.length < k → p.length + r.length ≤ 1000 → (∀ i ∈ r, 0 ≤ i ∧ i < o.length) → spec_l7Set.l0 (p ++ r) s K k p.length o = some (r.foldl (setN s) o) := by
  induction r with
  | nil =>
    intro k p o hk hl _
    obtain ⟨k, rfl⟩ := succ_of hk
    rw [spec_l7Set.l0, if_neg (by simp)]; rfl
  | cons i r ih =>
    intro k p o hk hl hr
    obtain ⟨k, rfl⟩ := succ_of hk
    simp only [List.length_cons] at hk hl
    have hi := hr i (by simp)
    rw [spec_l7Set.l0, if_pos (by simp; omega), at_mid, Option.bind_some, at_ndI o i hi.1 hi.2, Option.bind_some, w64_of (by omega) (by omega)]
    have := ih k (p ++ [i]) (setN s o i) (by omega) (by simp; omega) (fun j hj => by rw [setN_len]; exact hr j (by simp [hj]))
    rw [List.append_assoc] at this
    rw [show (p.length : Int) + 1 = ((p ++ [i]).length : Int) by simp]
    exact this
def renL (l : List Nd) (b : Bi) (s : ByteArray) (o : List Nd) : List Nd := (usesFrom l b l.length 0 []).foldl (setN s) (headN s b o)
theorem renL_len (l : List Nd) (b : Bi) (s : ByteArray) (o : List Nd) : (renL l b s o).length = o.length := by unfold renL; rw [fold_len, headN_len]
theorem uses_few (l : List Nd) (b : Bi) : ∀ (d i : Nat) (y : List Int), (usesFrom l b d i y).length ≤ y.length + d
  | 0, i, y => by simp [usesFrom]
  | d + 1, i, y => by
    rw [usesFrom]
    have := uses_few l b d (i + 1) (if (nd l i).Kind = 1 ∧ eqB (binderB l i) b = true then y ++ [(i : Int)] else y)
    split at this <;> split <;> simp_all <;> omega
theorem spec_set {l o : List Nd} (hl : l.length ≤ 150) (ho : o.length = l.length) (b : Bi) (h0 : 0 ≤ b.Node) (h1 : b.Node < l.length) (s : ByteArray) (K : Nat) (hK : 1000 ≤ K) : spec_l7Set.f K o (usesFrom l b l.length 0 []) b s = some (renL l b s o) := by
  have hu := uses_few l b l.length 0 []
  simp at hu
  have key : ∀ o1 : List Nd, o1 = headN s b o → ((spec_l7Set.l0 (usesFrom l b l.length 0 []) s K K 0 o1).bind fun v8 => some v8) = some (renL l b s o) := by
    rintro o1 rfl
    have := set_l0 s K (usesFrom l b l.length 0 []) K [] (headN s b o) (by omega) (by simp; omega) (fun i hi => by
      have := uses_lt l b l.length 0 [] (fun z hz => by simp at hz) i hi
      rw [headN_len]; omega)
    rw [List.nil_append] at this
    rw [show (0 : Int) = (([] : List Int).length : Int) from rfl, this]
    rfl
  unfold spec_l7Set.f
  simp only [jn]
  by_cases hr : b.Role = 0
  · rw [if_pos hr, at_ndI o b.Node h0 (by omega), Option.bind_some]
    exact key _ (by unfold headN; rw [if_pos hr]; rfl)
  · rw [if_neg hr, at_ndI o b.Node h0 (by omega), Option.bind_some]
    exact key _ (by unfold headN; rw [if_neg hr])
theorem ren_l0 {l : List Nd} (hl : l.length ≤ 150) (b : Bi) (h0 : 0 ≤ b.Node) (s : ByteArray) (K : Nat) (d : Nat) : ∀ (k i : Nat) (o : List Nd), i + d = l.length → d < k → o.length = l.length → impl_rename.l0 (bindersL l) b s K k i o = some ((usesFrom l b d i []).foldl (setN s) o) := by
  induction d with
  | zero =>
    intro k i o hi hk ho
    obtain ⟨k, rfl⟩ := succ_of (show 0 < k by omega)
    rw [impl_rename.l0, if_neg (by rw [bindersL_len]; omega)]; rfl
  | succ d ih =>
    intro k i o hi hk ho
    obtain ⟨k, rfl⟩ := succ_of (show 0 < k by omega)
    rw [impl_rename.l0, if_pos (by rw [bindersL_len]; omega)]
    simp only [jn]
    rw [at_binders l i (by omega), Option.bind_some]
    show (if eqB (binderB l i) b = true then _ else _) = _
    rw [w64_of (by omega) (by omega), show ((i : Int) + 1) = ((i + 1 : Nat) : Int) by omega, usesFrom]
    by_cases h2 : eqB (binderB l i) b = true
    · have h1 : (nd l i).Kind = 1 := by
        by_cases h1 : (nd l i).Kind = 1
        · exact h1
        · have e : binderB l i = noB := by unfold binderB; rw [if_neg h1]
          rw [e, eqB_iff] at h2
          rw [← h2] at h0
          exact absurd h0 (by decide)
      rw [if_pos h2, if_pos ⟨h1, h2⟩, at_nd o i (by omega), Option.bind_some, List.nil_append, uses_app, List.foldl_append]
      exact ih k (i + 1) _ (by omega) (by omega) (by rw [List.length_set]; exact ho)
    · rw [if_neg h2, if_neg (fun q => h2 q.2)]
      exact ih k (i + 1) o (by omega) (by omega) ho
theorem impl_set {l o : List Nd} (hl : l.length ≤ 150) (ho : o.length = l.length) (b : Bi) (h0 : 0 ≤ b.Node) (h1 : b.Node < l.length) (s : ByteArray) (K : Nat) (hK : 1000 ≤ K) : impl_rename.f K o (bindersL l) b s = some (renL l b s o) := by
  have key : ∀ o1 : List Nd, o1 = headN s b o → ((impl_rename.l0 (bindersL l) b s K K 0 o1).bind fun v8 => some v8) = some (renL l b s o) := by
    rintro o1 rfl
    have := ren_l0 hl b h0 s K l.length K 0 (headN s b o) (by omega) (by omega) (by rw [headN_len]; exact ho)
    rw [show ((0 : Nat) : Int) = 0 from rfl] at this
    rw [this]
    rfl
  unfold impl_rename.f
  simp only [jn]
  by_cases hr : b.Role = 0
  · rw [if_pos hr, at_ndI o b.Node h0 (by omega), Option.bind_some]
    exact key _ (by unfold headN; rw [if_pos hr]; rfl)
  · rw [if_neg hr, at_ndI o b.Node h0 (by omega), Option.bind_some]
    exact key _ (by unfold headN; rw [if_neg hr])
/-! ### the binders of a program -/
def siteN (n : Nd) (i : Int) : List Bi := if n.Kind = 3 ∨ n.Kind = 5 ∨ n.Kind = 19 then [⟨i, 0⟩] else if n.Kind = 6 ∨ n.Kind = 14 then [⟨i, 0⟩, ⟨i, 1⟩] else []
theorem siteN_len (n : Nd) (i : Int) : (siteN n i).length ≤ 2 := by unfold siteN; split <;> (try split) <;> simp
def sitesFrom (l : List Nd) : Nat → Nat → List Bi → List Bi
  | 0, _, y => y
  | d + 1, i, y => sitesFrom l d (i + 1) (y ++ siteN (nd l i) i)
theorem spec_sites_l0 {l : List Nd} (h : nodesOkB l = true) (hsm : ∀ n ∈ l, small n) (K : Nat) (hK : big ≤ K) (d : Nat) : ∀ (k i : Nat) (y : List Bi), i + d = l.length → d < k → y.length ≤ 2 * i → spec_Sites.l0 l K k i y = some (sitesFrom l d i y) := by
  have hlen := ok_len h
  induction d with
  | zero =>
    intro k i y hi hk hy
    obtain ⟨k, rfl⟩ := succ_of (show 0 < k by omega)
    rw [spec_Sites.l0]
    simp only [jn]
    rw [if_neg (by omega), if_neg (by simp), sitesFrom]
  | succ d ih =>
    intro k i y hi hk hy
    obtain ⟨k, rfl⟩ := succ_of (show 0 < k by omega)
    rw [spec_Sites.l0]
    simp only [jn]
    rw [if_pos (by omega), spec_nodesOk l (by omega) hsm K hK, Option.bind_some, h, if_pos rfl, at_nd l i (by omega), Option.bind_some, w64_of (by omega) (by omega), sitesFrom, show ((i : Int) + 1) = ((i + 1 : Nat) : Int) by omega]
    have hs := siteN_len (nd l i) (i : Int)
    have fin : ∀ y2 : List Bi, y2 = y ++ siteN (nd l i) i → spec_Sites.l0 l K k ((i + 1 : Nat) : Int) y2 = some (sitesFrom l d (i + 1) (y ++ siteN (nd l i) i)) := by
      rintro y2 rfl
      exact ih k (i + 1) _ (by omega) (by omega) (by simp; omega)
    generalize hn : nd l i = n at fin
    by_cases h3 : n.Kind = 3
    · rw [if_pos h3, if_pos trivial, gd_pos (by omega)]; exact fin _ (by simp [siteN, h3])
    rw [if_neg h3]
    by_cases h5 : n.Kind = 5
    · rw [if_pos h5, if_pos trivial, gd_pos (by omega)]; exact fin _ (by simp [siteN, h5])
    rw [if_neg h5]
    by_cases h19 : n.Kind = 19
    · rw [decide_eq_true h19, if_pos rfl, gd_pos (by omega)]; exact fin _ (by simp [siteN, h19])
    rw [decide_eq_false h19, if_neg (by simp)]
    by_cases h6 : n.Kind = 6
    · rw [if_pos h6, if_pos trivial, gd_pos (by omega)]; exact fin _ (by simp [siteN, h6])
    rw [if_neg h6]
    by_cases h14 : n.Kind = 14
    · rw [decide_eq_true h14, if_pos rfl, gd_pos (by omega)]; exact fin _ (by simp [siteN, h14])
    rw [decide_eq_false h14, if_neg (by simp)]
    exact fin _ (by simp [siteN, h3, h5, h19, h6, h14])
theorem impl_sites_l1 (i : Int) (m : Nat) (hm : m ≤ 2) (K : Nat) (k : Nat) (hk : 5 ≤ k) (y : List Bi) (hy : y.length ≤ 1000) : impl_Sites.l1 i (m : Int) K k 0 y = some (y ++ (if m = 1 then [⟨i, 0⟩] else if m = 2 then [⟨i, 0⟩, ⟨i, 1⟩] else [])) := by
  obtain ⟨k, rfl⟩ : ∃ j, k = j + 3 := ⟨k - 3, by omega⟩
  have hc : m = 0 ∨ m = 1 ∨ m = 2 := by omega
  rcases hc with rfl | rfl | rfl
  · rw [impl_Sites.l1, if_neg (by omega)]; simp
  · rw [impl_Sites.l1, if_pos (by omega), gd_pos (by omega), w64_of (by omega) (by omega), impl_Sites.l1, if_neg (by omega)]; simp
  · rw [impl_Sites.l1, if_pos (by omega), gd_pos (by omega), w64_of (by omega) (by omega), impl_Sites.l1, if_pos (by omega), gd_pos (by simp; omega), w64_of (by omega) (by omega), impl_Sites.l1, if_neg (by omega)]; simp
theorem impl_sites_l0 {l : List Nd} (h : nodesOkB l = true) (K : Nat) (hK : big ≤ K) (d : Nat) : ∀ (k i : Nat) (y : List Bi), i + d = l.length → d < k → y.length ≤ 2 * i → impl_Sites.l0 l K k i y = some (sitesFrom l d i y) := by
  have hlen := ok_len h
  have hK' := hK
  unfold big at hK'
  induction d with
  | zero =>
    intro k i y hi hk hy
    obtain ⟨k, rfl⟩ := succ_of (show 0 < k by omega)
    rw [impl_Sites.l0, if_neg (by omega), sitesFrom]
  | succ d ih =>
    intro k i y hi hk hy
    obtain ⟨k, rfl⟩ := succ_of (show 0 < k by omega)
    rw [impl_Sites.l0, if_pos (by omega)]
    simp only [jn]
    rw [at_nd l i (by omega), Option.bind_some, w64_of (by omega) (by omega), sitesFrom, show ((i : Int) + 1) = ((i + 1 : Nat) : Int) by omega]
    have hs := siteN_len (nd l i) (i : Int)
    have fin : ∀ y2 : List Bi, y2 = y ++ siteN (nd l i) i → impl_Sites.l0 l K k ((i + 1 : Nat) : Int) y2 = some (sitesFrom l d (i + 1) (y ++ siteN (nd l i) i)) := by
      rintro y2 rfl
      exact ih k (i + 1) _ (by omega) (by omega) (by simp; omega)
    generalize hn : nd l i = n at fin
    by_cases h1 : n.Kind = 1
    · rw [if_pos h1]; exact fin _ (by simp [siteN, h1])
    rw [if_neg h1, impl_names, Option.bind_some, impl_sites_l1 _ _ (by have := names_le n.Kind; omega) K K (by omega) y (by omega), Option.bind_some]
    refine fin _ ?_
    congr 1
    unfold namesN siteN
    by_cases h3 : n.Kind = 3
    · simp [h3]
    by_cases h5 : n.Kind = 5
    · simp [h5]
    by_cases h19 : n.Kind = 19
    · simp [h19]
    by_cases h6 : n.Kind = 6
    · simp [h6]
    by_cases h14 : n.Kind = 14
    · simp [h14]
    simp [h1, h3, h5, h19, h6, h14]
end Go.Proofs.YtfkanjgfjejgiaaGreatDoorE

namespace Go.Proofs.YtfkanjgfjejgiaaGreatDoorE
open Go.Ev Go.RowKit
set_option linter.unusedVariables false
set_option linter.unusedSimpArgs false
def anyT (u : List ByteArray) (t : List UInt8) : Bool := u.any fun x => x.toList == t
theorem inU_any (u : List ByteArray) (k : Nat) : inU u k = anyT u (freshT k).toList := rfl
theorem anyT_app (a b : List ByteArray) (t : List UInt8) : anyT (a ++ b) t = (anyT a t || anyT b t) := by simp [anyT]
/-! ### the free names -/
def freeFrom (l : List Nd) : Nat → Nat → List ByteArray → List ByteArray
  | 0, _, y => y
  | d + 1, i, y => freeFrom l d (i + 1) (if (nd l i).Kind = 1 ∧ (binderB l i).Node < 0 then y ++ [(nd l i).Name] else y)
theorem free_len (l : List Nd) : ∀ (d i : Nat) (y : List ByteArray), (freeFrom l d i y).length ≤ y.length + d
  | 0, i, y => by simp [freeFrom]
  | d + 1, i, y => by
    rw [freeFrom]
    have := free_len l d (i + 1) (if (nd l i).Kind = 1 ∧ (binderB l i).Node < 0 then y ++ [(nd l i).Name] else y)
    split at this <;> split <;> simp_all <;> omega
theorem impl_free_l0 {l : List Nd} (hl : l.length ≤ 150) (K : Nat) (d : Nat) : ∀ (k i : Nat) (y : List ByteArray), i + d = l.length → d < k → y.length ≤ i → impl_FreeNames.l0 l (bindersL l) K k i y = some (freeFrom l d i y) := by
  induction d with
  | zero =>
    intro k i y hi hk hy
    obtain ⟨k, rfl⟩ := succ_of (show 0 < k by omega)
    rw [impl_FreeNames.l0, if_neg (by rw [bindersL_len]; omega), freeFrom]
  | succ d ih =>
    intro k i y hi hk hy
    obtain ⟨k, rfl⟩ := succ_of (show 0 < k by omega)
    rw [impl_FreeNames.l0, if_pos (by rw [bindersL_len]; omega)]
    simp only [jn]
    rw [at_binders l i (by omega), Option.bind_some, at_nd l i (by omega), Option.bind_some, w64_of (by omega) (by omega), show ((i : Int) + 1) = ((i + 1 : Nat) : Int) by omega, freeFrom]
    by_cases h1 : (nd l i).Kind = 1
    · rw [if_pos h1]
      by_cases h2 : (binderB l i).Node < 0
      · rw [decide_eq_true h2, if_pos rfl, Option.bind_some, gd_pos (by omega), if_pos ⟨h1, h2⟩]
        exact ih k (i + 1) _ (by omega) (by omega) (by simp; omega)
      · rw [decide_eq_false h2, if_neg (by simp), if_neg (fun q => h2 q.2)]
        exact ih k (i + 1) y (by omega) (by omega) (by omega)
    · rw [if_neg h1, if_neg (by simp), if_neg (fun q => h1 q.1)]
      exact ih k (i + 1) y (by omega) (by omega) (by omega)
theorem sortS_any (u : List ByteArray) (t : List UInt8) : anyT (sortS u) t = anyT u t := by
  have hm : ∀ x, x ∈ sortS u ↔ x ∈ u := fun x => by
    unfold sortS
    simp only [List.mem_map, List.mem_mergeSort]
    constructor
    · rintro ⟨y, ⟨z, hz, rfl⟩, rfl⟩
      have : (⟨z.data.toList.toArray⟩ : ByteArray) = z := by simp
      rw [this]; exact hz
    · intro hx
      exact ⟨_, ⟨x, hx, rfl⟩, by simp⟩
  unfold anyT
  rw [Bool.eq_iff_iff, List.any_eq_true, List.any_eq_true]
  exact ⟨fun ⟨x, hx, e⟩ => ⟨x, (hm x).1 hx, e⟩, fun ⟨x, hx, e⟩ => ⟨x, (hm x).2 hx, e⟩⟩
theorem sorted_l0 (y : List ByteArray) (hy : y.length ≤ 1000) (K : Nat) (r : List ByteArray) : ∀ (k : Nat) (p v : List ByteArray), p ++ r = y → r.length < k → v.length ≤ p.length → (∀ t, anyT v t = anyT p t) → ∃ o, impl_sorted.l0 y K k p.length v = some o ∧ o.length ≤ y.length ∧ ∀ t, anyT o t = anyT y t := by
  induction r with
  | nil =>
    intro k p v hp hk hv ht
    obtain ⟨k, rfl⟩ := succ_of hk
    rw [List.append_nil] at hp
    subst hp
    exact ⟨v, by rw [impl_sorted.l0, if_neg (by omega)], hv, ht⟩
  | cons x r ih =>
    intro k p v hp hk hv ht
    obtain ⟨k, rfl⟩ := succ_of hk
    simp only [List.length_cons] at hk
    have hyl : y.length = p.length + (r.length + 1) := by rw [← hp]; simp
    have hat : at_ y (p.length : Int) = some x := by rw [← hp]; exact at_mid p r x
    rw [impl_sorted.l0, if_pos (by omega)]
    simp only [jn]
    rw [hat, Option.bind_some, w64_of (x := (p.length : Int) + 1) (by omega) (by omega)]
    have e1 : ((p.length : Int) + 1) = ((p ++ [x]).length : Int) := by simp
    have new : ∃ o, impl_sorted.l0 y K k ((p.length : Int) + 1) (v ++ [x]) = some o ∧ o.length ≤ y.length ∧ ∀ t, anyT o t = anyT y t := by
      rw [e1]
      exact ih k (p ++ [x]) (v ++ [x]) (by rw [← hp]; simp) (by omega) (by simp; omega) fun t => by rw [anyT_app, anyT_app, ht]
    by_cases h0 : (p.length : Int) = 0
    · rw [if_pos h0, if_pos trivial, gd_pos (by omega)]
      exact new
    · rw [if_neg h0]
      have hpn : p ≠ [] := fun e => h0 (by rw [e]; rfl)
      obtain ⟨q, z, rfl⟩ : ∃ q z, p = q ++ [z] := ⟨p.dropLast, p.getLast hpn, (List.dropLast_concat_getLast hpn).symm⟩
      have hat2 : at_ y (w64 (((q ++ [z]).length : Int) - 1)) = some z := by
        rw [w64_of (by omega) (by omega), show (((q ++ [z]).length : Int) - 1) = (q.length : Int) by simp, ← hp, List.append_assoc]
        exact at_mid q (x :: r) z
      rw [hat2, Option.bind_some]
      by_cases hz : (z.toList == x.toList) = true
      · rw [hz]
        simp only [Bool.not_true, Bool.false_eq_true, if_false]
        rw [e1]
        refine ih k (q ++ [z] ++ [x]) v (by rw [← hp]; simp) (by omega) (by simp at hv ⊢; omega) fun t => ?_
        rw [ht, anyT_app (q ++ [z]) [x], anyT_app q [z]]
        have : anyT [x] t = anyT [z] t := by simp [anyT, eq_of_beq hz]
        rw [this]
        cases anyT q t <;> cases anyT [z] t <;> rfl
      · rw [Bool.eq_false_iff.2 hz]
        simp only [Bool.not_false, if_true]
        rw [gd_pos (by omega)]
        exact new
theorem impl_free {l : List Nd} (h : nodesOkB l = true) (hsm : ∀ n ∈ l, small n) (K : Nat) (hK : big ≤ K) : ∃ o, impl_FreeNames.f K l = some o ∧ o.length ≤ 150 ∧ ∀ t, anyT o t = anyT (freeFrom l l.length 0 []) t := by
  have hlen := ok_len h
  have hK' := hK
  unfold big at hK'
  unfold impl_FreeNames.f
  rw [impl_nodesOk l (by omega) hsm K hK, Option.bind_some, h]
  simp only [Bool.not_true, Bool.false_eq_true, if_false, jn]
  have q := impl_free_l0 hlen.2 K l.length K 0 [] (by omega) (by omega) (by simp)
  rw [show ((0 : Nat) : Int) = 0 from rfl] at q
  rw [impl_bindersL h K (by omega), Option.bind_some, q, Option.bind_some]
  generalize hW : freeFrom l l.length 0 [] = W
  have hWl : W.length ≤ 150 := by have := free_len l l.length 0 []; rw [hW] at this; simp at this; omega
  unfold impl_sorted.f sort_Strings.f
  rw [if_pos (by omega), Option.bind_some, gd_pos (by rw [sortS_len])]
  obtain ⟨o, e, h1, h2⟩ := sorted_l0 (sortS W) (by rw [sortS_len]; omega) K (sortS W) K [] [] (by simp) (by rw [sortS_len]; omega) (by simp) (fun t => rfl)
  rw [show (([] : List ByteArray).length : Int) = 0 from rfl] at e
  simp only [jn]
  rw [e]
  simp only [Option.bind_some]
  rw [gd_pos (by rw [sortS_len])]
  exact ⟨o, rfl, by rw [sortS_len] at h1; omega, fun t => by rw [h2, sortS_any]⟩
theorem l6_l0 (s : ByteArray) (y : List ByteArray) (hy : y.length ≤ 1000) (K : Nat) (r : List ByteArray) : ∀ (k : Nat) (p v : List ByteArray) (b : Bool), p ++ r = y → r.length < k → v.length ≤ p.length + 1 → (b = false → v.length ≤ p.length) → (∀ t, anyT v t = (anyT p t || (b && s.toList == t))) →
    ∃ o, spec_l6Sort.l0 y s K k b p.length v = some o ∧ ((o = .inl y ∧ anyT y s.toList = true) ∨ ∃ b' v', o = .inr (b', v') ∧ v'.length ≤ y.length + 1 ∧ (b' = false → v'.length ≤ y.length) ∧ ∀ t, anyT v' t = (anyT y t || (b' && s.toList == t))) := by
  induction r with
  | nil =>
    intro k p v b hp hk hv hv2 ht
    obtain ⟨k, rfl⟩ := succ_of hk
    rw [List.append_nil] at hp
    subst hp
    exact ⟨.inr (b, v), by rw [spec_l6Sort.l0, if_neg (by omega)], .inr ⟨b, v, rfl, hv, hv2, ht⟩⟩
  | cons x r ih =>
    intro k p v b hp hk hv hv2 ht
    obtain ⟨k, rfl⟩ := succ_of hk
    simp only [List.length_cons] at hk
    have hyl : y.length = p.length + (r.length + 1) := by rw [← hp]; simp
    have hat : at_ y (p.length : Int) = some x := by rw [← hp]; exact at_mid p r x
    rw [spec_l6Sort.l0, if_pos (by omega), hat, Option.bind_some]
    by_cases hx : (x.toList == s.toList) = true
    · rw [if_pos hx]
      refine ⟨_, rfl, .inl ⟨rfl, ?_⟩⟩
      rw [← hp]
      unfold anyT
      rw [List.any_append, List.any_cons, hx]; simp
    · rw [if_neg hx]
      simp only [jn]
      rw [w64_of (by omega) (by omega)]
      have e1 : ((p.length : Int) + 1) = ((p ++ [x]).length : Int) := by simp
      have same : b = b → ∃ o, (gd ((v.length + 1) * 16 ≤ 140737488355328) (spec_l6Sort.l0 y s K k b ((p.length : Int) + 1) (v ++ [x]))) = some o ∧ ((o = .inl y ∧ anyT y s.toList = true) ∨ ∃ b' v', o = .inr (b', v') ∧ v'.length ≤ y.length + 1 ∧ (b' = false → v'.length ≤ y.length) ∧ ∀ t, anyT v' t = (anyT y t || (b' && s.toList == t))) := fun _ => by
        rw [gd_pos (by omega), e1]
        refine ih k (p ++ [x]) (v ++ [x]) b (by rw [← hp]; simp) (by omega) (by simp; omega) (fun hb => by have := hv2 hb; simp; omega) fun t => ?_
        rw [anyT_app, anyT_app, ht]
        cases anyT p t <;> cases anyT [x] t <;> cases b <;> simp
      cases b with
      | true =>
        simp only [Bool.not_true, Bool.false_eq_true, if_false]
        exact same rfl
      | false =>
        simp only [Bool.not_false, if_true]
        have hvp := hv2 rfl
        by_cases hc : (!(Op.bytesLess x.toList s.toList || x.toList == s.toList)) = true
        · rw [if_pos hc, gd_pos (by omega), gd_pos (by simp; omega), e1]
          refine ih k (p ++ [x]) (v ++ [s] ++ [x]) true (by rw [← hp]; simp) (by omega) (by simp; omega) (fun hb => by cases hb) fun t => ?_
          rw [anyT_app, anyT_app v [s], anyT_app p [x], ht]
          have : anyT [s] t = (s.toList == t) := by simp [anyT]
          rw [this]
          cases anyT p t <;> cases anyT [x] t <;> cases (s.toList == t) <;> rfl
        · rw [if_neg hc]
          exact same rfl
theorem spec_l6 (s : ByteArray) (y : List ByteArray) (hy : y.length ≤ 900) (K : Nat) (hK : 2000 ≤ K) : ∃ o, spec_l6Sort.f K y s = some o ∧ o.length ≤ y.length + 1 ∧ ∀ t, anyT o t = (anyT y t || s.toList == t) := by
  unfold spec_l6Sort.f
  simp only [jn]
  obtain ⟨o, e, h⟩ := l6_l0 s y (by omega) K y K [] [] false (by simp) (by omega) (by simp) (fun _ => by simp) (fun t => rfl)
  rw [show (([] : List ByteArray).length : Int) = 0 from rfl] at e
  rw [e]
  rcases h with ⟨rfl, h⟩ | ⟨b, v, rfl, h1, h2, h3⟩
  · refine ⟨y, rfl, by omega, fun t => ?_⟩
    by_cases ht : (s.toList == t) = true
    · rw [← eq_of_beq ht, h]; simp
    · rw [Bool.eq_false_iff.2 ht]; simp
  · cases b with
    | true =>
      refine ⟨v, rfl, h1, fun t => by rw [h3]; rfl⟩
    | false =>
      have := h2 rfl
      refine ⟨v ++ [s], ?_, by simp; omega, fun t => by rw [anyT_app, h3]; simp [anyT]⟩
      show (if (!false) = true then gd ((v.length + 1) * 16 ≤ 140737488355328) (some (v ++ [s])) else some v) = some (v ++ [s])
      simp only [Bool.not_false, if_true]
      rw [gd_pos (by omega)]
theorem spec_free_l0 {l : List Nd} (h : nodesOkB l = true) (hsm : ∀ n ∈ l, small n) (K : Nat) (hK : big ≤ K) (d : Nat) : ∀ (k i : Nat) (v y : List ByteArray), i + d = l.length → d < k → v.length ≤ i → (∀ t, anyT v t = anyT y t) → ∃ o, spec_FreeNames.l0 l K k v i = some o ∧ o.length ≤ l.length ∧ ∀ t, anyT o t = anyT (freeFrom l d i y) t := by
  have hlen := ok_len h
  have hK' := hK
  unfold big at hK'
  induction d with
  | zero =>
    intro k i v y hi hk hv ht
    obtain ⟨k, rfl⟩ := succ_of (show 0 < k by omega)
    rw [spec_FreeNames.l0]
    simp only [jn]
    rw [if_neg (by omega), if_neg (by simp)]
    exact ⟨v, rfl, by omega, ht⟩
  | succ d ih =>
    intro k i v y hi hk hv ht
    obtain ⟨k, rfl⟩ := succ_of (show 0 < k by omega)
    rw [spec_FreeNames.l0]
    simp only [jn]
    rw [if_pos (by omega), spec_nodesOk l (by omega) hsm K hK, Option.bind_some, h, if_pos rfl, at_nd l i (by omega), Option.bind_some, w64_of (by omega) (by omega), show ((i : Int) + 1) = ((i + 1 : Nat) : Int) by omega, freeFrom]
    by_cases h1 : (nd l i).Kind = 1
    · rw [if_pos h1, spec_binder h hsm i (by omega) K hK, Option.bind_some]
      by_cases h2 : (binderB l i).Node < 0
      · rw [decide_eq_true h2, if_pos rfl, Option.bind_some, if_pos ⟨h1, h2⟩]
        obtain ⟨o, e, b1, b2⟩ := spec_l6 (nd l i).Name v (by omega) K (by omega)
        rw [e, Option.bind_some]
        exact ih k (i + 1) o _ (by omega) (by omega) (by omega) fun t => by rw [b2, ht, anyT_app]; simp [anyT]
      · rw [decide_eq_false h2, if_neg (by simp), if_neg (fun q => h2 q.2)]
        exact ih k (i + 1) v y (by omega) (by omega) (by omega) ht
    · rw [if_neg h1, if_neg (by simp), if_neg (fun q => h1 q.1)]
      exact ih k (i + 1) v y (by omega) (by omega) (by omega) ht
theorem spec_free {l : List Nd} (h : nodesOkB l = true) (hsm : ∀ n ∈ l, small n) (K : Nat) (hK : big ≤ K) : ∃ o, spec_FreeNames.f K l = some o ∧ o.length ≤ 150 ∧ ∀ t, anyT o t = anyT (freeFrom l l.length 0 []) t := by
  have hlen := ok_len h
  have hK' := hK
  unfold big at hK'
  obtain ⟨o, e, b1, b2⟩ := spec_free_l0 h hsm K hK l.length K 0 [] [] (by omega) (by omega) (by simp) (fun t => rfl)
  unfold spec_FreeNames.f
  simp only [jn]
  rw [show ((0 : Nat) : Int) = 0 from rfl] at e
  rw [e]
  exact ⟨o, rfl, by omega, b2⟩
end Go.Proofs.YtfkanjgfjejgiaaGreatDoorE
