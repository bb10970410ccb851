/- A right program's nodes: where each begins, its one parent. -/
import Derived.Test.YtfkanjgfjejgiaaGreatDoorZUvOk
set_option linter.unusedSimpArgs false
set_option linter.unusedVariables false
namespace Go.Proofs.YtfkanjgfjejgiaaGreatDoorE
open Go.Ev
set_option linter.unusedVariables false
set_option linter.unusedSimpArgs false
def nd (l : List Nd) (i : Nat) : Nd := l.getD i ⟨0, 0, 0, 0, 0, ⟨#[]⟩, ⟨#[]⟩⟩
def rd (l : List Int) (i : Int) : Int := l.getD i.toNat 0
theorem rd_nat (ss : List Int) (j : Nat) : rd ss (j : Int) = ss.getD j 0 := rfl
theorem at_nd (l : List Nd) (i : Nat) (h : i < l.length) : at_ l (i : Int) = some (nd l i) := at_getD l _ i h
theorem at_rd (l : List Int) (i : Int) (h0 : 0 ≤ i) (h : i < l.length) : at_ l i = some (rd l i) := by
  obtain ⟨n, rfl⟩ : ∃ n : Nat, i = (n : Int) := ⟨i.toNat, by omega⟩
  exact at_getD l 0 n (by omega)
theorem nd_get (l : List Nd) (i : Nat) (h : i < l.length) : nd l i = l[i] := by simp [nd, List.getD, h]
def StN (ss : List Int) (i : Nat) : Prop := ss.length = i ∧ ∀ j, j < i → 0 ≤ ss.getD j 0 ∧ ss.getD j 0 ≤ j
theorem down_z (ss ks : List Int) (a : Int) : down ss ks 0 a = some a := rfl
theorem down_s (ss ks : List Int) (j : Nat) (a : Int) : down ss ks (j + 1) a = if rd ks (j : Int) = a - 1 ∧ 1 ≤ a then down ss ks j (rd ss (a - 1)) else none := rfl
theorem dn_le {ss ks : List Int} {i : Nat} (hs : StN ss i) (j : Nat) (a b : Int) (h0 : 0 ≤ a) (h1 : a ≤ i) (h : down ss ks j a = some b) : 0 ≤ b ∧ b ≤ a :=
  down_le (fun j h => hs.2 j (by rw [← hs.1]; exact h)) j a b h0 (by rw [hs.1]; exact h1) h
/-- Where each node begins. -/
def startsL (l : List Nd) : List Int := (startsGo l []).getD []
theorem startsL_ok {l : List Nd} (h : nodesOkB l = true) : startsGo l [] = some (startsL l) ∧ StN (startsL l) l.length ∧ ∀ x : Nat, x < l.length → down (startsL l) (kids (nd l x)) (arityN (nd l x).Kind) x = some (rd (startsL l) (x : Int)) := by
  unfold nodesOkB at h
  simp only [Bool.and_eq_true] at h
  cases hg : startsGo l [] with
  | none => rw [hg] at h; exact absurd h.2 (by simp)
  | some t =>
    have e : startsL l = t := by unfold startsL; rw [hg]; rfl
    rw [e]
    obtain ⟨st, _, q⟩ := go_all l [] t starts_nil hg
    have tl := go_len _ _ _ hg
    simp at tl
    refine ⟨rfl, ⟨tl, fun j hj => st j (by omega)⟩, fun x hx => ?_⟩
    have := (q x hx).2
    rw [nd_get l x hx]
    simpa [rd] using this
theorem ok_len {l : List Nd} (h : nodesOkB l = true) : 1 ≤ l.length ∧ l.length ≤ 150 := by
  obtain ⟨h1, h2, _⟩ := ok_all h
  exact ⟨h1, h2⟩
theorem down_kids {ss ks : List Int} {i : Nat} (hs : StN ss i) (j : Nat) : ∀ (a b : Int), 0 ≤ a → a ≤ i → down ss ks j a = some b → ∀ m, m < j → b ≤ rd ks (m : Int) ∧ rd ks (m : Int) < a := by
  induction j with
  | zero => intro a b _ _ _ m hm; omega
  | succ j ih =>
    intro a b h0 h1 h m hm
    simp only [down_z, down_s] at h
    split at h
    · rename_i hc
      obtain ⟨q, hq⟩ : ∃ q : Nat, a - 1 = (q : Int) := ⟨(a - 1).toNat, by omega⟩
      rw [hq, rd_nat] at h
      have hb := hs.2 q (by omega)
      have hd := dn_le hs j _ b hb.1 (by omega) h
      by_cases hmj : m = j
      · subst hmj; omega
      · have := ih _ b hb.1 (by omega) h m (by omega)
        omega
    · cases h
theorem ok_kids {l : List Nd} (h : nodesOkB l = true) (x : Nat) (hx : x < l.length) (m : Nat) (hm : m < arityN (nd l x).Kind) : 0 ≤ rd (kids (nd l x)) (m : Int) ∧ rd (kids (nd l x)) (m : Int) < x := by
  obtain ⟨_, hs, hd⟩ := startsL_ok h
  have := down_kids hs _ _ _ (by omega) (by omega) (hd x hx) m hm
  have h2 := hs.2 x hx
  rw [← rd_nat] at h2
  omega
theorem st_le {l : List Nd} (h : nodesOkB l = true) (x : Nat) (hx : x < l.length) : 0 ≤ rd (startsL l) (x : Int) ∧ rd (startsL l) (x : Int) ≤ x := (startsL_ok h).2.1.2 x hx
theorem down_tile {t ks : List Int} {i : Nat} (hs : StN t i) (j : Nat) : ∀ (a b : Int), 0 ≤ a → a ≤ i → down t ks j a = some b → ∀ p : Int, b ≤ p → p < a → ∃ m, m < j ∧ rd t (rd ks (m : Int)) ≤ p ∧ p ≤ rd ks (m : Int) ∧ rd ks (m : Int) < a ∧ b ≤ rd t (rd ks (m : Int)) := by
  induction j with
  | zero => intro a b _ _ h p h0 h1; simp only [down_z, down_s] at h; cases h; omega
  | succ j ih =>
    intro a b h0 h1 h p h2 h3
    simp only [down_z, down_s] at h
    split at h
    · rename_i hc
      obtain ⟨q, hq⟩ : ∃ q : Nat, a - 1 = (q : Int) := ⟨(a - 1).toNat, by omega⟩
      have hb := hs.2 q (by omega)
      have hb0 : 0 ≤ rd t (a - 1) := by rw [hq, rd_nat]; exact hb.1
      have hb1 : rd t (a - 1) ≤ a - 1 := by rw [hq, rd_nat]; omega
      have hd := dn_le hs j _ b hb0 (by omega) h
      by_cases hp : rd t (a - 1) ≤ p
      · exact ⟨j, by omega, by rw [hc.1]; exact hp, by omega, by omega, by rw [hc.1]; omega⟩
      · obtain ⟨m, k1, k2, k3, k4, k5⟩ := ih _ b hb0 (by omega) h p h2 (by omega)
        exact ⟨m, by omega, k2, k3, by omega, k5⟩
    · cases h
theorem down_gap {t ks : List Int} {i : Nat} (hs : StN t i) (j : Nat) : ∀ (a b : Int), 0 ≤ a → a ≤ i → down t ks j a = some b → ∀ m0, m0 < j → (b ≤ rd t (rd ks (m0 : Int))) ∧ ∀ p : Int, rd ks (m0 : Int) < p → p < a → ∃ m, m < j ∧ rd t (rd ks (m : Int)) ≤ p ∧ p ≤ rd ks (m : Int) ∧ rd ks (m : Int) < a ∧ rd ks (m0 : Int) < rd t (rd ks (m : Int)) := by
  induction j with
  | zero => intro a b _ _ _ m0 hm; omega
  | succ j ih =>
    intro a b h0 h1 h m0 hm
    have h' := h
    simp only [down_z, down_s] at h
    split at h
    · rename_i hc
      obtain ⟨q, hq⟩ : ∃ q : Nat, a - 1 = (q : Int) := ⟨(a - 1).toNat, by omega⟩
      have hb := hs.2 q (by omega)
      have hb0 : 0 ≤ rd t (a - 1) := by rw [hq, rd_nat]; exact hb.1
      have hb1 : rd t (a - 1) ≤ a - 1 := by rw [hq, rd_nat]; omega
      have hd := dn_le hs j _ b hb0 (by omega) h
      by_cases hmj : m0 = j
      · subst hmj
        exact ⟨by rw [hc.1]; omega, fun p h2 h3 => by omega⟩
      · obtain ⟨k0, k⟩ := ih _ b hb0 (by omega) h m0 (by omega)
        have hk := down_kids hs j _ b hb0 (by omega) h m0 (by omega)
        refine ⟨k0, fun p h2 h3 => ?_⟩
        by_cases hp : rd t (a - 1) ≤ p
        · exact ⟨j, by omega, by rw [hc.1]; exact hp, by omega, by omega, by rw [hc.1]; omega⟩
        · obtain ⟨m, k1, k2, k3, k4, k5⟩ := k p h2 (by omega)
          exact ⟨m, by omega, k2, k3, by omega, k5⟩
    · cases h
theorem laminar {l : List Nd} {t : List Int} (hs : StN t l.length) (hd : ∀ x : Nat, x < l.length → down t (kids (nd l x)) (arityN (nd l x).Kind) x = some (rd t (x : Int))) (N : Nat) : ∀ k : Nat, k < N → k < l.length → ∀ p : Nat, rd t (k : Int) ≤ p → p ≤ k → rd t (k : Int) ≤ rd t (p : Int) := by
  induction N with
  | zero => intro k hk; omega
  | succ N ih =>
    intro k hk hkl p h0 h1
    by_cases hp : p = k
    · subst hp; exact Int.le_refl _
    · have hb := hs.2 k hkl
      obtain ⟨m, k1, k2, k3, k4, k5⟩ := down_tile hs _ _ _ (by omega) (by omega) (hd k hkl) p h0 (by omega)
      obtain ⟨q, hq⟩ : ∃ q : Nat, rd (kids (nd l k)) (m : Int) = (q : Int) := ⟨(rd (kids (nd l k)) (m : Int)).toNat, by omega⟩
      rw [hq] at k2 k3 k4 k5
      have := ih q (by omega) (by omega) p k2 (by omega)
      omega
/-- Two nodes of which one is part of both are one. -/
theorem one_parent {l : List Nd} (h : nodesOkB l = true) {x y : Nat} (hx : x < l.length) (hy : y < l.length) {m m' : Nat} (hm : m < arityN (nd l x).Kind) (hm' : m' < arityN (nd l y).Kind) (he : rd (kids (nd l x)) (m : Int) = rd (kids (nd l y)) (m' : Int)) : x = y := by
  obtain ⟨_, hs, hd⟩ := startsL_ok h
  generalize startsL l = t at hs hd
  have key : ∀ {x y : Nat}, x < l.length → y < l.length → ∀ {m m' : Nat}, m < arityN (nd l x).Kind → m' < arityN (nd l y).Kind → rd (kids (nd l x)) (m : Int) = rd (kids (nd l y)) (m' : Int) → x < y → False := by
    intro x y hx hy m m' hm hm' he hlt
    have hkx := ok_kids h x hx m hm
    obtain ⟨a1, a2⟩ := down_gap hs _ _ _ (by omega) (by omega) (hd y hy) m' hm'
    obtain ⟨b1, _⟩ := down_gap hs _ _ _ (by omega) (by omega) (hd x hx) m hm
    obtain ⟨q, k1, k2, k3, k4, k5⟩ := a2 x (by omega) (by omega)
    have hkq := ok_kids h y hy q k1
    obtain ⟨K, hK⟩ : ∃ K : Nat, rd (kids (nd l y)) (q : Int) = (K : Int) := ⟨(rd (kids (nd l y)) (q : Int)).toNat, by omega⟩
    rw [hK] at k2 k3 k4 k5
    have hl := laminar hs hd (K + 1) K (by omega) (by omega) x k2 (by omega)
    obtain ⟨c, hc⟩ : ∃ c : Nat, rd (kids (nd l x)) (m : Int) = (c : Int) := ⟨(rd (kids (nd l x)) (m : Int)).toNat, by omega⟩
    rw [hc] at b1 hkx he
    have hsc := hs.2 c (by omega)
    rw [← rd_nat] at hsc
    omega
  by_cases h1 : x < y
  · exact (key hx hy hm hm' he h1).elim
  · by_cases h2 : y < x
    · exact (key hy hx hm' hm he.symm h2).elim
    · omega

/-! ### parents -/
def hasFrom (ks : List Int) (c : Int) : Nat → Nat → Bool
  | 0, _ => false
  | e + 1, j => if rd ks (j : Int) = c then true else hasFrom ks c e (j + 1)
def hasKid (n : Nd) (c : Int) : Bool := hasFrom (kids n) c (arityN n.Kind) 0
theorem hasFrom_iff (ks : List Int) (c : Int) (e : Nat) : ∀ j, hasFrom ks c e j = true ↔ ∃ m, j ≤ m ∧ m < j + e ∧ rd ks (m : Int) = c := by
  induction e with
  | zero => intro j; simp [hasFrom]; omega
  | succ e ih =>
    intro j
    simp only [hasFrom]
    by_cases h : rd ks (j : Int) = c
    · rw [if_pos h]
      exact ⟨fun _ => ⟨j, by omega, by omega, h⟩, fun _ => rfl⟩
    · rw [if_neg h, ih]
      constructor
      · rintro ⟨m, h1, h2, h3⟩; exact ⟨m, by omega, by omega, h3⟩
      · rintro ⟨m, h1, h2, h3⟩
        refine ⟨m, ?_, by omega, h3⟩
        by_cases hm : m = j
        · subst hm; exact absurd h3 h
        · omega
theorem hasKid_iff (n : Nd) (c : Int) : hasKid n c = true ↔ ∃ m, m < arityN n.Kind ∧ rd (kids n) (m : Int) = c := by
  unfold hasKid
  rw [hasFrom_iff]
  constructor
  · rintro ⟨m, _, h2, h3⟩; exact ⟨m, by omega, h3⟩
  · rintro ⟨m, h2, h3⟩; exact ⟨m, by omega, by omega, h3⟩
/-- The first node, from i on, of which c is a part. -/
def parFrom (l : List Nd) (c : Int) : Nat → Nat → Int
  | 0, _ => -1
  | d + 1, i => if hasKid (nd l i) c = true then i else parFrom l c d (i + 1)
def parOf (l : List Nd) (c : Int) : Int := parFrom l c l.length 0
/-- The last node before i of which c is a part. -/
def lastPar (l : List Nd) (c : Int) : Nat → Int
  | 0 => -1
  | i + 1 => if hasKid (nd l i) c = true then i else lastPar l c i
theorem parFrom_none (l : List Nd) (c : Int) (d : Nat) : ∀ i, (∀ x, i ≤ x → x < i + d → hasKid (nd l x) c = false) → parFrom l c d i = -1 := by
  induction d with
  | zero => intro i _; rfl
  | succ d ih =>
    intro i h
    simp only [parFrom]
    rw [h i (by omega) (by omega), if_neg (by simp)]
    exact ih (i + 1) fun x h1 h2 => h x (by omega) (by omega)
theorem parFrom_at (l : List Nd) (c : Int) (x : Nat) (hx : hasKid (nd l x) c = true) (d : Nat) : ∀ i, (∀ y, i ≤ y → y < x → hasKid (nd l y) c = false) → i ≤ x → x < i + d → parFrom l c d i = x := by
  induction d with
  | zero => intro i _ _ _; omega
  | succ d ih =>
    intro i h h0 h1
    simp only [parFrom]
    by_cases hi : i = x
    · subst hi; rw [if_pos hx]
    · rw [h i (by omega) (by omega), if_neg (by simp)]
      exact ih (i + 1) (fun y h2 h3 => h y (by omega) h3) (by omega) (by omega)
theorem last_par {l : List Nd} (h : nodesOkB l = true) (c : Int) (i : Nat) : i ≤ l.length → (∀ x, i ≤ x → x < l.length → hasKid (nd l x) c = false) → lastPar l c i = parOf l c := by
  induction i with
  | zero =>
    intro _ hx
    exact (parFrom_none l c l.length 0 fun x _ h2 => hx x (by omega) (by omega)).symm
  | succ i ih =>
    intro hi hx
    simp only [lastPar]
    by_cases hk : hasKid (nd l i) c = true
    · rw [if_pos hk]
      refine (parFrom_at l c i hk l.length 0 (fun y _ hy => ?_) (by omega) (by omega)).symm
      cases hh : hasKid (nd l y) c with
      | false => rfl
      | true =>
        obtain ⟨m, h1, h2⟩ := (hasKid_iff _ _).1 hh
        obtain ⟨m', h3, h4⟩ := (hasKid_iff _ _).1 hk
        have := one_parent h (show y < l.length by omega) (show i < l.length by omega) h1 h3 (h2.trans h4.symm)
        omega
    · rw [if_neg hk]
      refine ih (by omega) fun x h1 h2 => ?_
      by_cases hxi : x = i
      · subst hxi; simpa using hk
      · exact hx x (by omega) h2
theorem parOf_lt (l : List Nd) (c : Int) : parOf l c < l.length := by
  have : ∀ d i, parFrom l c d i < (i : Int) + d := by
    intro d
    induction d with
    | zero => intro i; simp only [parFrom]; omega
    | succ d ih =>
      intro i
      simp only [parFrom]
      split
      · omega
      · have := ih (i + 1); omega
  have := this l.length 0
  unfold parOf
  omega
theorem parOf_gt {l : List Nd} (h : nodesOkB l = true) (c : Int) : parOf l c = -1 ∨ (c < parOf l c ∧ 0 ≤ parOf l c) := by
  have : ∀ d i, i + d ≤ l.length → parFrom l c d i = -1 ∨ (c < parFrom l c d i ∧ 0 ≤ parFrom l c d i) := by
    intro d
    induction d with
    | zero => intro i _; exact .inl rfl
    | succ d ih =>
      intro i hi
      simp only [parFrom]
      split
      · rename_i hk
        obtain ⟨m, h1, h2⟩ := (hasKid_iff _ _).1 hk
        have := ok_kids h i (by omega) m h1
        exact .inr ⟨by omega, by omega⟩
      · exact ih (i + 1) (by omega)
  exact this l.length 0 (by omega)
theorem down_first {t ks : List Int} {i : Nat} (hs : StN t i) (j : Nat) : ∀ (a b : Int), 0 ≤ a → a ≤ i → down t ks (j + 1) a = some b → b = rd t (rd ks 0) := by
  induction j with
  | zero =>
    intro a b h0 h1 h
    simp only [down_z, down_s] at h
    split at h
    · rename_i hc
      cases h
      have := hc.1
      rw [← this]
      rfl
    · cases h
  | succ j ih =>
    intro a b h0 h1 h
    rw [down_s] at h
    split at h
    · rename_i hc
      obtain ⟨q, hq⟩ : ∃ q : Nat, a - 1 = (q : Int) := ⟨(a - 1).toNat, by omega⟩
      have hb := hs.2 q (by omega)
      rw [hq, rd_nat] at h
      exact ih _ b hb.1 (by omega) h
    · cases h
theorem kid0 (n : Nd) (h : 0 < arityN n.Kind) : rd (kids n) 0 = n.A := by
  obtain ⟨m, hm⟩ := succ_of h
  unfold kids
  rw [hm]
  rfl
theorem start_step {l : List Nd} (h : nodesOkB l = true) (x : Nat) (hx : x < l.length) (ha : 0 < arityN (nd l x).Kind) : rd (startsL l) (x : Int) = rd (startsL l) (nd l x).A ∧ 0 ≤ (nd l x).A ∧ (nd l x).A < x := by
  have hd := (startsL_ok h).2.2 x hx
  have hk := ok_kids h x hx 0 ha
  rw [show ((0 : Nat) : Int) = 0 from rfl, kid0 _ ha] at hk
  obtain ⟨m, hm⟩ := succ_of ha
  rw [hm] at hd
  have := down_first (startsL_ok h).2.1 m x _ (by omega) (by omega) hd
  rw [kid0 _ ha] at this
  exact ⟨this, hk⟩
theorem start_leaf {l : List Nd} (h : nodesOkB l = true) (x : Nat) (hx : x < l.length) (ha : arityN (nd l x).Kind = 0) : rd (startsL l) (x : Int) = x := by
  have hd := (startsL_ok h).2.2 x hx
  rw [ha] at hd
  simp only [down_z, down_s] at hd
  exact (Option.some.inj hd).symm
theorem par_eq {l : List Nd} (h : nodesOkB l = true) (c : Int) (x : Nat) (hx : x < l.length) (hk : hasKid (nd l x) c = true) : parOf l c = x := by
  refine parFrom_at l c x hk l.length 0 (fun y _ hy => ?_) (by omega) (by omega)
  cases hh : hasKid (nd l y) c with
  | false => rfl
  | true =>
    obtain ⟨m, h1, h2⟩ := (hasKid_iff _ _).1 hh
    obtain ⟨m', h3, h4⟩ := (hasKid_iff _ _).1 hk
    have := one_parent h (show y < l.length by omega) hx h1 h3 (h2.trans h4.symm)
    omega
theorem par_in {l : List Nd} (h : nodesOkB l = true) (A : Nat) : A < l.length → ∀ i : Nat, rd (startsL l) (A : Int) ≤ i → i < A → (i : Int) < parOf l i ∧ parOf l i ≤ A := by
  induction A using Nat.strongRecOn with
  | ind A ih =>
    intro hA i h0 h1
    obtain ⟨m, k1, k2, k3, k4, k5⟩ := down_tile (startsL_ok h).2.1 _ _ _ (by omega) (by omega) ((startsL_ok h).2.2 A hA) i h0 (by omega)
    have hk := ok_kids h A hA m k1
    obtain ⟨q, hq⟩ : ∃ q : Nat, rd (kids (nd l A)) (m : Int) = (q : Int) := ⟨(rd (kids (nd l A)) (m : Int)).toNat, by omega⟩
    by_cases hi : i = q
    · have : hasKid (nd l A) i = true := (hasKid_iff _ _).2 ⟨m, k1, by omega⟩
      rw [par_eq h i A hA this]
      omega
    · rw [hq] at k2 k3 k4
      have := ih q (by omega) (by omega) i k2 (by omega)
      omega
end Go.Proofs.YtfkanjgfjejgiaaGreatDoorE
