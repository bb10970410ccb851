/- A list of nodes, marked with numbers and texts that rise; nodes that were marked are held. -/
import Derived.Test.YtfkanjgfjejgiaaGreatDoorZUvNode
set_option linter.unusedSimpArgs false
set_option linter.unusedVariables false
namespace Go.Proofs.YtfkanjgfjejgiaaGreatDoorE
open Go.Ev
set_option linter.unusedVariables false
def toN (a : laws_Node) : Nd := ⟨a.Kind, a.A, a.B, a.C, a.N, a.Name, a.Other⟩
theorem set_at {α : Type} (p : List α) (a v : α) (t : List α) : (p ++ a :: t).set p.length v = p ++ v :: t := by
  rw [List.set_append_right _ _ (Nat.le_refl _), Nat.sub_self, List.set_cons_zero]
theorem toNodeS_l0 (K : Nat) (r : List laws_Node) : ∀ (k : Nat) (ys : List laws_Node) (ws : List Nd), ws.length = r.length → r.length < k → ys.length + r.length ≤ 1048576 →
    laws_toNodeS.l0 (ys ++ r) K k ys.length (ys.map toN ++ ws) = some ((ys ++ r).map toN) := by
  induction r with
  | nil =>
    intro k ys ws hw hk hl
    obtain ⟨k, rfl⟩ := succ_of hk
    obtain rfl := List.eq_nil_of_length_eq_zero hw
    rw [laws_toNodeS.l0, if_neg (by simp)]
    simp
  | cons a r ih =>
    intro k ys ws hw hk hl
    obtain ⟨k, rfl⟩ := succ_of hk
    simp only [List.length_cons] at hk hl hw
    match ws, hw with
    | w :: ws, hw =>
      have hm : (ys.map toN).length = ys.length := List.length_map _
      have e : w64 ((ys.length : Int) + 1) = ((ys ++ [a]).length : Int) := by rw [w64_of (by omega) (by omega)]; simp
      have am := at_mid (ys.map toN) ws w
      have sm := set_at (ys.map toN) w (toN a) ws
      rw [hm] at am sm
      rw [laws_toNodeS.l0, if_pos (by simp; omega), at_mid, Option.bind_some, laws_toNode.f, Option.bind_some, am, Option.bind_some, e, Int.toNat_natCast]
      rw [show (⟨a.Kind, a.A, a.B, a.C, a.N, a.Name, a.Other⟩ : impl_Node) = toN a from rfl, sm]
      have := ih k (ys ++ [a]) ws (by simpa using hw) (by omega) (by simp; omega)
      simpa using this
theorem toNodeS (l : List laws_Node) (hn : l.length ≤ 1048576) (K : Nat) (hk : l.length < K) : laws_toNodeS.f K l = some (l.map toN) := by
  unfold laws_toNodeS.f jn
  rw [gd_pos (by omega), Int.toNat_natCast]
  have q := toNodeS_l0 K l K [] (List.replicate l.length ⟨0, 0, 0, 0, 0, ⟨#[]⟩, ⟨#[]⟩⟩) (by simp) hk (by simpa using hn)
  rw [show laws_toNodeS.l0 l K K 0 (List.replicate l.length (⟨0, 0, 0, 0, 0, ⟨#[]⟩, ⟨#[]⟩⟩ : impl_Node)) = _ from q]
  rfl
theorem eqNode_refl (K : Nat) (a : Nd) : laws_eqNode.f K a a = some true := by simp [laws_eqNode.f]
theorem eqNodeS_l0 (K : Nat) (r : List Nd) : ∀ (k : Nat) (p : List Nd), r.length < k → p.length + r.length ≤ 4000000 → laws_eqNodeS.l0 (p ++ r) (p ++ r) K k p.length = some (.inr ()) := by
  induction r with
  | nil =>
    intro k p hk hl
    obtain ⟨k, rfl⟩ := succ_of hk
    rw [laws_eqNodeS.l0, if_neg (by simp)]
  | cons a r ih =>
    intro k p hk hl
    obtain ⟨k, rfl⟩ := succ_of hk
    simp only [List.length_cons] at hk hl
    have e : w64 ((p.length : Int) + 1) = ((p ++ [a]).length : Int) := by rw [w64_of (by omega) (by omega)]; simp
    rw [laws_eqNodeS.l0, if_pos (by simp; omega), at_mid, Option.bind_some, Option.bind_some, eqNode_refl, Option.bind_some, e]
    have := ih k (p ++ [a]) (by omega) (by simp; omega)
    simpa using this
theorem eqNodeS (x : List Nd) (hn : x.length ≤ 4000000) (K : Nat) (hk : x.length < K) : laws_eqNodeS.f K x x = some true := by
  unfold laws_eqNodeS.f jn
  have q := eqNodeS_l0 K x K [] hk (by simpa using hn)
  rw [show laws_eqNodeS.l0 x x K K 0 = _ from q]
  simp [lb]
theorem szNodeS_l0 (K : Nat) (r : List laws_Node) : (∀ a ∈ r, a.Name.size ≤ 9223372036854775807 ∧ a.Other.size ≤ 9223372036854775807) → ∀ (k : Nat) (ys : List laws_Node) (n : Int), r.length < k → ys.length + r.length ≤ 1048576 → 0 ≤ n → n ≤ 1048576 →
    ∃ x, laws_szNodeS.l0 (ys ++ r) K k n ys.length = some x ∧ ((∃ m, x = .inl m ∧ m < 0) ∨ (∃ m, x = .inr m) ∧ ∀ a ∈ r, small (toN a)) := by
  induction r with
  | nil =>
    intro hm k ys n hk hl h0 h1
    obtain ⟨k, rfl⟩ := succ_of hk
    exact ⟨.inr n, by rw [laws_szNodeS.l0, if_neg (by simp)], .inr ⟨⟨_, rfl⟩, fun a ha => by cases ha⟩⟩
  | cons a r ih =>
    intro hm k ys n hk hl h0 h1
    obtain ⟨k, rfl⟩ := succ_of hk
    simp only [List.length_cons] at hk hl
    obtain ⟨m5, m6⟩ := hm a (by simp)
    have e : w64 ((ys.length : Int) + 1) = ((ys ++ [a]).length : Int) := by rw [w64_of (by omega) (by omega)]; simp
    rw [laws_szNodeS.l0, if_pos (by simp; omega), at_mid, Option.bind_some, laws_szNode.f, w64_of (x := n - _) (by omega) (by omega)]
    by_cases h5 : n - (a.Name.size : Int) < 0
    · rw [if_pos h5]
      exact ⟨.inl (-1), rfl, .inl ⟨-1, rfl, by omega⟩⟩
    · rw [if_neg h5, w64_of (x := n - (a.Name.size : Int) - _) (by omega) (by omega)]
      by_cases h6 : n - (a.Name.size : Int) - (a.Other.size : Int) < 0
      · rw [if_pos h6]
        exact ⟨.inl (-1), rfl, .inl ⟨-1, rfl, by omega⟩⟩
      · rw [if_neg h6, Option.bind_some, if_neg h6, e, show ys ++ a :: r = (ys ++ [a]) ++ r by simp]
        obtain ⟨x, hx, hc⟩ := ih (fun y hy => hm y (by simp [hy])) k (ys ++ [a]) (n - (a.Name.size : Int) - (a.Other.size : Int)) (by omega) (by simp; omega) (by omega) (by omega)
        refine ⟨x, hx, hc.imp _root_.id fun ⟨h, q⟩ => ⟨h, fun y hy => ?_⟩⟩
        cases hy with
        | head => exact ⟨by show a.Name.size ≤ _; omega, by show a.Other.size ≤ _; omega⟩
        | tail _ hy => exact q y hy
/-- Sized: less than nothing is left, or the list and its texts are of a size that is there. -/
theorem szNodeS (l : List laws_Node) (hl : l.length ≤ 9223372036854775807) (hm : ∀ a ∈ l, a.Name.size ≤ 9223372036854775807 ∧ a.Other.size ≤ 9223372036854775807) (K : Nat) (hk : 1048580 ≤ K) :
    ∃ r, laws_szNodeS.f K l 1048576 = some r ∧ (r < 0 ∨ l.length ≤ 1048576 ∧ ∀ n ∈ l.map toN, small n) := by
  unfold laws_szNodeS.f jn
  rw [w64_of (by omega) (by omega)]
  by_cases h : (1048576 : Int) - (l.length : Int) < 0
  · rw [if_pos h]
    exact ⟨-1, rfl, .inl (by omega)⟩
  · rw [if_neg h]
    obtain ⟨x, hx, hc⟩ := szNodeS_l0 K l hm K [] (1048576 - (l.length : Int)) (by omega) (by simp; omega) (by omega) (by omega)
    rw [show laws_szNodeS.l0 l K K (1048576 - (l.length : Int)) 0 = _ from hx]
    rcases hc with ⟨m, rfl, hm⟩ | ⟨⟨m, rfl⟩, q⟩
    · exact ⟨m, rfl, .inl hm⟩
    · exact ⟨m, rfl, .inr ⟨by omega, fun n hn => by
        obtain ⟨a, ha, rfl⟩ := List.mem_map.1 hn
        exact q a ha⟩⟩
end Go.Proofs.YtfkanjgfjejgiaaGreatDoorE

namespace Go.Proofs.YtfkanjgfjejgiaaGreatDoorE
open Go.Ev Go.RowKit
set_option linter.unusedVariables false
theorem markText_l0 (d : Nat) : ∀ (n : Int) (s : ByteArray), n ≤ 9223372036854775807 → 0 ≤ n → n < 10 ^ d → s.size + d ≤ 4000000 → ∃ r : ByteArray, r.size ≤ s.size + d ∧ ∀ K k, d < k → laws_markText.l0 K k n s = some r := by
  induction d with
  | zero =>
    intro n s hb h0 h1 hs
    have : n = 0 := by simp at h1; omega
    subst this
    refine ⟨s, by omega, fun K k hk => ?_⟩
    obtain ⟨k, rfl⟩ := succ_of hk
    rw [laws_markText.l0, if_neg (by omega)]
  | succ d ih =>
    intro n s hb h0 h1 hs
    by_cases hz : n = 0
    · subst hz
      refine ⟨s, by omega, fun K k hk => ?_⟩
      obtain ⟨k, rfl⟩ := succ_of (show 0 < k by omega)
      rw [laws_markText.l0, if_neg (by omega)]
    · have hq : Int.tdiv n 10 = n / 10 := Int.tdiv_eq_ediv_of_nonneg h0
      have hd : (10 : Int) ^ (d + 1) = 10 ^ d * 10 := Int.pow_succ ..
      have hlt : n / 10 < 10 ^ d := by
        rw [hd] at h1
        exact Int.ediv_lt_of_lt_mul (by omega) h1
      have one : ∀ x : Int, (strOfNums [x]).size = 1 := fun x => strOfNums_size [x]
      obtain ⟨r, hr0, hr⟩ := ih (n / 10) (strOfNums [IntKind.u8.wrap (w64 (48 + (Int.tmod n 10)))] ++ s) (by omega) (by omega) hlt (by rw [ByteArray.size_append, one]; omega)
      rw [ByteArray.size_append, one] at hr0
      refine ⟨r, by omega, fun K k hk => ?_⟩
      obtain ⟨k, rfl⟩ := succ_of (show 0 < k by omega)
      rw [laws_markText.l0, if_pos (by omega), gd_pos (by rw [one]; omega), hq, w64_of (x := n / 10) (by omega) (by omega)]
      exact hr K k (by omega)
def markT (n : Int) : ByteArray := (laws_markText.f 100 n).getD ByteArray.empty
theorem markText (n : Int) (h0 : 0 < n) (h1 : n < 10 ^ 18) (K : Nat) (hk : 30 < K) : laws_markText.f K n = some (markT n) := by
  obtain ⟨r, hr0, hr⟩ := markText_l0 18 n (⟨#[]⟩ : ByteArray) (by omega) (by omega) h1 (by show 0 + 18 ≤ 4000000; omega)
  have hr0' : r.size ≤ 0 + 18 := hr0
  have e : ∀ K, 30 < K → laws_markText.f K n = some ((⟨#[109]⟩ : ByteArray) ++ r) := by
    intro K hk
    unfold laws_markText.f jn
    rw [if_neg (by omega), hr K K (by omega)]
    show gd ((⟨#[109]⟩ : ByteArray).size + r.size ≤ 9223372036854775807) (some ((⟨#[109]⟩ : ByteArray) ++ r)) = _
    rw [gd_pos (by show 1 + r.size ≤ _; omega)]
  unfold markT
  rw [e K hk, e 100 (by omega)]
  rfl
def mkNode (n : Int) : Nd := ⟨n, n + 1, n + 1 + 1, n + 1 + 1 + 1, n + 1 + 1 + 1 + 1, markT (n + 1 + 1 + 1 + 1 + 1), markT (n + 1 + 1 + 1 + 1 + 1 + 1)⟩
def mkNodeL : Int → Nat → List Nd
  | _, 0 => []
  | n, d + 1 => mkNode n :: mkNodeL (n + 1 + 1 + 1 + 1 + 1 + 1 + 1) d
theorem mkNodeL_len : ∀ (d : Nat) (n : Int), (mkNodeL n d).length = d
  | 0, n => rfl
  | d + 1, n => by rw [mkNodeL, List.length_cons, mkNodeL_len d]
theorem markNodeS_l0 (K : Nat) (hK : 30 < K) (x : List Nd) : ∀ (k : Nat) (n : Int) (p : List Nd), x.length < k → p.length + x.length ≤ 4000000 → 0 ≤ n → n + 7 * x.length ≤ 4000000000 → laws_markNodeS.l0 K k n p.length (p ++ x) = some (n + 7 * x.length, p ++ mkNodeL n x.length) := by
  induction x with
  | nil =>
    intro k n p hk hp h0 h1
    obtain ⟨k, rfl⟩ := succ_of (show 0 < k by omega)
    rw [laws_markNodeS.l0, if_neg (by simp)]
    simp [mkNodeL]
  | cons a t ih =>
    intro k n p hk hp h0 h1
    obtain ⟨k, rfl⟩ := succ_of (show 0 < k by omega)
    simp only [List.length_cons] at hk hp h1
    have e1 : w64 (n + 1) = n + 1 := w64_of (by omega) (by omega)
    have e2 : w64 (n + 1 + 1) = n + 1 + 1 := w64_of (by omega) (by omega)
    have e3 : w64 (n + 1 + 1 + 1) = n + 1 + 1 + 1 := w64_of (by omega) (by omega)
    have e4 : w64 (n + 1 + 1 + 1 + 1) = n + 1 + 1 + 1 + 1 := w64_of (by omega) (by omega)
    have e5 : w64 (n + 1 + 1 + 1 + 1 + 1) = n + 1 + 1 + 1 + 1 + 1 := w64_of (by omega) (by omega)
    have e6 : w64 (n + 1 + 1 + 1 + 1 + 1 + 1) = n + 1 + 1 + 1 + 1 + 1 + 1 := w64_of (by omega) (by omega)
    have e7 : w64 (n + 1 + 1 + 1 + 1 + 1 + 1 + 1) = n + 1 + 1 + 1 + 1 + 1 + 1 + 1 := w64_of (by omega) (by omega)
    have t5 := markText (n + 1 + 1 + 1 + 1 + 1) (by omega) (by omega) K hK
    have t6 := markText (n + 1 + 1 + 1 + 1 + 1 + 1) (by omega) (by omega) K hK
    have ep : w64 ((p.length : Int) + 1) = ((p ++ [mkNode n]).length : Int) := by rw [w64_of (by omega) (by omega)]; simp
    rw [laws_markNodeS.l0, if_pos (by simp; omega)]
    simp only [e1, e2, e3, e4, e5, e6, e7, t5, t6, ep, set_at, at_mid, Int.toNat_natCast, Option.bind_some]
    have := ih k (n + 1 + 1 + 1 + 1 + 1 + 1 + 1) (p ++ [mkNode n]) (by omega) (by simp; omega) (by omega) (by omega)
    rw [List.append_assoc, List.append_assoc] at this
    refine Eq.trans this ?_
    refine congrArg some (Prod.ext ?_ rfl)
    simp only [List.length_cons]
    omega
theorem markNodeS (x : List Nd) (hx : x.length ≤ 1100000) (K : Nat) (hk : x.length + 40 < K) : laws_markNodeS.f K x 1 = some (1 + 7 * (x.length : Int), mkNodeL 1 x.length) := by
  unfold laws_markNodeS.f jn
  rw [show laws_markNodeS.l0 K K 1 0 x = _ from markNodeS_l0 K (by omega) x K 1 [] (by omega) (by simp; omega) (by omega) (by omega)]
  rfl
theorem heldNodeS_l0 (K : Nat) (hK : 30 < K) (d : Nat) : ∀ (k : Nat) (n : Int) (p : List Nd), d < k → p.length + d ≤ 4000000 → 0 ≤ n → n + 7 * d ≤ 4000000000 → laws_heldNodeS.l0 (p ++ mkNodeL n d) K k n p.length = some (.inr (n + 7 * d)) := by
  induction d with
  | zero =>
    intro k n p hk hp h0 h1
    obtain ⟨k, rfl⟩ := succ_of (show 0 < k by omega)
    rw [laws_heldNodeS.l0, if_neg (by simp [mkNodeL])]
    simp
  | succ d ih =>
    intro k n p hk hp h0 h1
    obtain ⟨k, rfl⟩ := succ_of (show 0 < k by omega)
    have e1 : w64 (n + 1) = n + 1 := w64_of (by omega) (by omega)
    have e2 : w64 (n + 1 + 1) = n + 1 + 1 := w64_of (by omega) (by omega)
    have e3 : w64 (n + 1 + 1 + 1) = n + 1 + 1 + 1 := w64_of (by omega) (by omega)
    have e4 : w64 (n + 1 + 1 + 1 + 1) = n + 1 + 1 + 1 + 1 := w64_of (by omega) (by omega)
    have e5 : w64 (n + 1 + 1 + 1 + 1 + 1) = n + 1 + 1 + 1 + 1 + 1 := w64_of (by omega) (by omega)
    have e6 : w64 (n + 1 + 1 + 1 + 1 + 1 + 1) = n + 1 + 1 + 1 + 1 + 1 + 1 := w64_of (by omega) (by omega)
    have e7 : w64 (n + 1 + 1 + 1 + 1 + 1 + 1 + 1) = n + 1 + 1 + 1 + 1 + 1 + 1 + 1 := w64_of (by omega) (by omega)
    have t5 := markText (n + 1 + 1 + 1 + 1 + 1) (by omega) (by omega) K hK
    have t6 := markText (n + 1 + 1 + 1 + 1 + 1 + 1) (by omega) (by omega) K hK
    have ep : w64 ((p.length : Int) + 1) = ((p ++ [mkNode n]).length : Int) := by rw [w64_of (by omega) (by omega)]; simp
    have ml := mkNodeL_len (d + 1) n
    rw [laws_heldNodeS.l0, if_pos (by simp [ml]; omega)]
    simp only [mkNodeL, e1, e2, e3, e4, e5, e6, e7, t5, t6, ep, at_mid, Option.bind_some]
    have := ih k (n + 1 + 1 + 1 + 1 + 1 + 1 + 1) (p ++ [mkNode n]) (by omega) (by simp; omega) (by omega) (by omega)
    rw [List.append_assoc] at this
    have e : laws_heldNodeS.l0 (p ++ mkNode n :: mkNodeL (n + 1 + 1 + 1 + 1 + 1 + 1 + 1) d) K k (n + 1 + 1 + 1 + 1 + 1 + 1 + 1) ((p ++ [mkNode n]).length : Int) = some (.inr (n + 7 * ((d + 1 : Nat) : Int))) := by
      refine Eq.trans this (congrArg some (congrArg Sum.inr ?_))
      omega
    rw [e]
    simp [mkNode]
theorem heldNodeS (d : Nat) (hd : d ≤ 1100000) (K : Nat) (hk : d + 40 < K) : laws_heldNodeS.f K (mkNodeL 1 d) 1 = some (1 + 7 * (d : Int)) := by
  unfold laws_heldNodeS.f jn
  rw [show laws_heldNodeS.l0 (mkNodeL 1 d) K K 1 0 = _ from heldNodeS_l0 K (by omega) d K 1 [] (by omega) (by simp; omega) (by omega) (by omega)]
  rfl
end Go.Proofs.YtfkanjgfjejgiaaGreatDoorE
