/- Parts of a program, shifted and joined: l3Shift, l3Make, flat. -/
import Derived.Test.YtfkanjgfjejgiaaGreatDoorZUvOk
import Derived.IntWalk
set_option linter.unusedSimpArgs false
set_option linter.unusedVariables false
namespace Go.Proofs.YtfkanjgfjejgiaaGreatDoorE
open Go.Ev
set_option linter.unusedVariables false
theorem w64_eq (n : Int) : w64 n = (n + 9223372036854775808) % 18446744073709551616 - 9223372036854775808 := by
  show IntKind.i64.wrap n = _
  rw [IntKind.wrap_i64]
theorem w_w (x a b : Int) : w64 (w64 (x + a) + b) = w64 (x + (a + b)) := by
  simp only [w64_eq]
  omega
def shiftN (b : Int) (n : Nd) : Nd := ⟨n.Kind, if 1 ≤ arityN n.Kind then w64 (n.A + b) else n.A, if 2 ≤ arityN n.Kind then w64 (n.B + b) else n.B, if 3 ≤ arityN n.Kind then w64 (n.C + b) else n.C, n.N, n.Name, n.Other⟩
theorem shift_shift (a b : Int) (n : Nd) : shiftN b (shiftN a n) = shiftN (a + b) n := by
  unfold shiftN
  simp only [impl_Node.mk.injEq, true_and, and_true]
  refine ⟨?_, ?_, ?_⟩
  · split
    · exact w_w _ _ _
    · rfl
  · split
    · exact w_w _ _ _
    · rfl
  · split
    · exact w_w _ _ _
    · rfl
def shiftL (b : Int) (l : List Nd) : List Nd := l.map (shiftN b)
theorem shiftL_shiftL (a b : Int) (l : List Nd) : shiftL b (shiftL a l) = shiftL (a + b) l := by
  unfold shiftL
  simp [shift_shift]
theorem shiftL_append (b : Int) (l m : List Nd) : shiftL b (l ++ m) = shiftL b l ++ shiftL b m := List.map_append
theorem shiftL_len (b : Int) (l : List Nd) : (shiftL b l).length = l.length := List.length_map _
theorem shift_l0 (b : Int) (K : Nat) (r : List Nd) : ∀ (k : Nat) (p o : List Nd), r.length < k → p.length + r.length ≤ 1000000 → o.length + r.length ≤ 1000000 →
    spec_l3Shift.l0 (p ++ r) b K k p.length o = some (o ++ shiftL b r) := by
  induction r with
  | nil =>
    intro k p o hk hp ho
    obtain ⟨k, rfl⟩ := succ_of hk
    rw [spec_l3Shift.l0, if_neg (by simp)]
    simp [shiftL]
  | cons n r ih =>
    intro k p o hk hp ho
    obtain ⟨k, rfl⟩ := succ_of hk
    simp only [List.length_cons] at hk hp ho
    rw [spec_l3Shift.l0, if_pos (by simp; omega), at_mid]
    have al := arity_le n.Kind
    simp only [Option.bind_some, spec_arity, jn]
    have e : w64 ((p.length : Int) + 1) = ((p ++ [n]).length : Int) := by rw [w64_of (by omega) (by omega)]; simp
    have key : ∀ m : Nd, m = shiftN b n → gd ((o.length + 1) * 72 ≤ 140737488355328) (spec_l3Shift.l0 (p ++ n :: r) b K k (w64 ((p.length : Int) + 1)) (o ++ [m])) = some (o ++ shiftL b (n :: r)) := by
      rintro m rfl
      rw [gd_pos (by omega), e, show p ++ n :: r = (p ++ [n]) ++ r by simp, ih k (p ++ [n]) (o ++ [shiftN b n]) (by omega) (by simp; omega) (by simp; omega)]
      simp [shiftL]
    rcases (by omega : arityN n.Kind = 0 ∨ arityN n.Kind = 1 ∨ arityN n.Kind = 2 ∨ arityN n.Kind = 3) with h | h | h | h <;> rw [h] <;> simp (config := { decide := true }) only [if_true, if_false] <;> exact key _ (by simp [shiftN, h])
theorem shift_f (b : Int) (l : List Nd) (K : Nat) (hl : l.length ≤ 1000000) (hk : l.length < K) : spec_l3Shift.f K l b = some (shiftL b l) := by
  unfold spec_l3Shift.f jn
  have q := shift_l0 b K l K [] [] hk (by simpa using hl) (by simpa using hl)
  rw [List.nil_append, List.nil_append] at q
  rw [show (0 : Int) = (([] : List Nd).length : Int) from rfl, q]
  rfl

/-! ### parts joined -/
def setKid (j : Nat) (n : Nd) (v : Int) : Nd := if j = 0 then ⟨n.Kind, v, n.B, n.C, n.N, n.Name, n.Other⟩ else if j = 1 then ⟨n.Kind, n.A, v, n.C, n.N, n.Name, n.Other⟩ else ⟨n.Kind, n.A, n.B, v, n.N, n.Name, n.Other⟩
def glue : Nat → Nd → List Nd → List (List Nd) → Nd × List Nd
  | _, n, o, [] => (n, o)
  | j, n, o, p :: ps => glue (j + 1) (setKid j n (w64 (((o.length + p.length : Nat) : Int) - 1))) (o ++ shiftL o.length p) ps
def lens : List (List Nd) → Nat
  | [] => 0
  | p :: ps => p.length + lens ps
theorem glue_len : ∀ (ps : List (List Nd)) (j : Nat) (n : Nd) (o : List Nd), (glue j n o ps).2.length = o.length + lens ps
  | [], j, n, o => rfl
  | p :: ps, j, n, o => by rw [glue, glue_len ps, lens, List.length_append, shiftL_len]; omega
theorem setKid_kind (j : Nat) (n : Nd) (v : Int) : (setKid j n v).Kind = n.Kind := by
  unfold setKid
  split
  · rfl
  · split <;> rfl
theorem glue_kind : ∀ (ps : List (List Nd)) (j : Nat) (n : Nd) (o : List Nd), (glue j n o ps).1.Kind = n.Kind
  | [], j, n, o => rfl
  | p :: ps, j, n, o => by rw [glue, glue_kind ps, setKid_kind]
def make (n : Nd) (ps : List (List Nd)) : List Nd := (glue 0 n [] ps).2 ++ [(glue 0 n [] ps).1]
theorem make_len (n : Nd) (ps : List (List Nd)) : (make n ps).length = lens ps + 1 := by
  unfold make; rw [List.length_append, glue_len]; simp
theorem l3Make_l0 (K : Nat) (hK : 1000 ≤ K) (r : List (List Nd)) : ∀ (k : Nat) (q : List (List Nd)) (n : Nd) (o : List Nd), r.length < k → q.length + r.length ≤ 3 → o.length + lens r < 1000 →
    spec_l3Make.l0 (q ++ r) K k q.length n o = some (glue q.length n o r) := by
  induction r with
  | nil =>
    intro k q n o hk hq ho
    obtain ⟨k, rfl⟩ := succ_of hk
    rw [spec_l3Make.l0, if_neg (by simp)]
    rfl
  | cons p r ih =>
    intro k q n o hk hq ho
    obtain ⟨k, rfl⟩ := succ_of hk
    simp only [List.length_cons, lens] at hk hq ho
    rw [spec_l3Make.l0, if_pos (by simp; omega), jn, at_mid, Option.bind_some, shift_f _ p K (by omega) (by omega), Option.bind_some, shiftL_len, gd_pos (by omega)]
    have e : w64 ((q.length : Int) + 1) = ((q ++ [p]).length : Int) := by rw [w64_of (by omega) (by omega)]; simp
    have key : ∀ m : Nd, m = setKid q.length n (w64 (((o.length + p.length : Nat) : Int) - 1)) → spec_l3Make.l0 (q ++ p :: r) K k (w64 ((q.length : Int) + 1)) m (o ++ shiftL o.length p) = some (glue q.length n o (p :: r)) := by
      rintro m rfl
      rw [e, show q ++ p :: r = (q ++ [p]) ++ r by simp, ih k (q ++ [p]) _ _ (by omega) (by simp; omega) (by simp [shiftL_len]; omega), glue]
      simp
    have el : ((o ++ shiftL o.length p).length : Int) = ((o.length + p.length : Nat) : Int) := by simp [shiftL_len]
    rw [el]
    by_cases h0 : (q.length : Int) = 0
    · rw [if_pos h0]
      exact key _ (by rw [setKid, if_pos (by omega)])
    · rw [if_neg h0]
      by_cases h1 : (q.length : Int) = 1
      · rw [if_pos h1]
        exact key _ (by rw [setKid, if_neg (by omega), if_pos (by omega)])
      · rw [if_neg h1]
        exact key _ (by rw [setKid, if_neg (by omega), if_neg (by omega)])
theorem l3Make_f (n : Nd) (ps : List (List Nd)) (K : Nat) (hK : 1000 ≤ K) (hp : ps.length ≤ 3) (hl : lens ps < 1000) : spec_l3Make.f K n ps = some (make n ps) := by
  unfold spec_l3Make.f jn
  have q := l3Make_l0 K hK ps K [] n [] (by omega) (by simpa using hp) (by simpa using hl)
  rw [List.nil_append] at q
  rw [show (0 : Int) = (([] : List (List Nd)).length : Int) from rfl, q]
  have := glue_len ps 0 n []
  show gd (((glue 0 n [] ps).2.length + 1) * 72 ≤ 140737488355328) (some ((glue 0 n [] ps).2 ++ [(glue 0 n [] ps).1])) = _
  simp only [List.length_nil] at this
  rw [gd_pos (by omega)]
  rfl
/-- A node whose first j kids are moved on. -/
def shN (j : Nat) (b : Int) (n : Nd) : Nd := ⟨n.Kind, if 1 ≤ j then w64 (n.A + b) else n.A, if 2 ≤ j then w64 (n.B + b) else n.B, if 3 ≤ j then w64 (n.C + b) else n.C, n.N, n.Name, n.Other⟩
theorem shN_set (j : Nat) (hj : j < 3) (b x : Int) (n : Nd) : setKid j (shN j b n) (w64 (x + b)) = shN (j + 1) b (setKid j n (w64 x)) := by
  have e : w64 (w64 x + b) = w64 (x + b) := by simp only [w64_eq]; omega
  rcases (by omega : j = 0 ∨ j = 1 ∨ j = 2) with rfl | rfl | rfl <;> simp [setKid, shN, e]
theorem glue_shift (L : List Nd) : ∀ (ps : List (List Nd)) (j : Nat) (n : Nd) (o : List Nd), j + ps.length ≤ 3 →
    glue j (shN j L.length n) (L ++ shiftL L.length o) ps = (shN (j + ps.length) L.length (glue j n o ps).1, L ++ shiftL L.length (glue j n o ps).2)
  | [], j, n, o, h => rfl
  | p :: ps, j, n, o, h => by
    simp only [List.length_cons] at h
    rw [glue, glue, show j + (p :: ps).length = (j + 1) + ps.length by simp; omega, ← glue_shift L ps (j + 1) _ _ (by omega)]
    congr 1
    · rw [← shN_set j (by omega)]
      congr 2
      simp [shiftL_len]
      omega
    · rw [shiftL_append, shiftL_shiftL, List.append_assoc, List.length_append, shiftL_len]
      congr 3
      simp
      omega
theorem shN_all (n : Nd) (b : Int) : shN (arityN n.Kind) b n = shiftN b n := rfl
theorem glue_out (L : List Nd) (n : Nd) (ps : List (List Nd)) (h : arityN n.Kind = ps.length) (h3 : ps.length ≤ 3) : (glue 0 n L ps).2 ++ [(glue 0 n L ps).1] = L ++ shiftL L.length (make n ps) := by
  have q := glue_shift L ps 0 n [] (by omega)
  rw [show shN 0 L.length n = n from rfl, show shiftL L.length [] = [] from rfl, List.append_nil] at q
  rw [q, make, shiftL_append, ← List.append_assoc]
  congr 1
  rw [Nat.zero_add, ← h, ← glue_kind ps 0 n []]
  rfl
theorem make_fix (n : Nd) (ps : List (List Nd)) (h : arityN n.Kind = ps.length) (h3 : ps.length ≤ 3) : shiftL 0 (make n ps) = make n ps := by
  have q := glue_out [] n ps h h3
  rw [List.nil_append] at q
  exact q.symm

end Go.Proofs.YtfkanjgfjejgiaaGreatDoorE
