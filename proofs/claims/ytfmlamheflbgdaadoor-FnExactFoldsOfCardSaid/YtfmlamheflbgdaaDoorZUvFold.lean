/- Folding: a node's tree, its fold, its part, out of those of its kids. -/
import Derived.Test.YtfmlamheflbgdaaDoorZUvFlat
set_option linter.unusedSimpArgs false
set_option linter.unusedVariables false
namespace Go.Proofs.YtfmlamheflbgdaaDoorE
open Go.Ev
set_option linter.unusedVariables false
/-- A node of a program: its number, its tree, the tree folded, the part that the reference makes of it, how many folds there were. -/
structure Kd where
  x : Int
  t : impl_tree
  t' : impl_tree
  p : List Nd
  c : Int
def Sh (t : impl_tree) (p : List Nd) : Prop := (p = [t.n] ∧ arityN t.n.Kind = 0) ∨ (2 ≤ p.length ∧ arityN t.n.Kind ≠ 0)
structure KOk (l : List Nd) (N : Nat) (g : Kd) : Prop where
  tree : ∀ K d, N ≤ K → N ≤ d → impl_treeOf.r K d l g.x = some g.t
  fold : ∀ K d, N ≤ K → N ≤ d → ∀ s : Int, 0 ≤ s → s + g.c ≤ 1000000 → impl_folder_fold.r K d ⟨s⟩ g.t = some (g.t', ⟨s + g.c⟩)
  flat : ∀ K d, N ≤ K → N ≤ d → ∀ out : List Nd, out.length + g.p.length ≤ 1000 → impl_flat.r K d out g.t' = some (out ++ shiftL out.length g.p)
  part : ∀ K d, N ≤ K → N ≤ d → spec_l14Part.r K d l g.x = some (g.p, g.c)
  c0 : 0 ≤ g.c
  sh : Sh g.t' g.p
  fix : shiftL 0 g.p = g.p
theorem KOk.up {l : List Nd} {N M : Nat} {g : Kd} (h : KOk l N g) (q : N ≤ M) : KOk l M g :=
  ⟨fun K d a b => h.tree K d (by omega) (by omega), fun K d a b => h.fold K d (by omega) (by omega), fun K d a b => h.flat K d (by omega) (by omega), fun K d a b => h.part K d (by omega) (by omega), h.c0, h.sh, h.fix⟩
def sumC : List Kd → Int
  | [] => 0
  | g :: gs => g.c + sumC gs
theorem sumC0 {l : List Nd} {N : Nat} : ∀ {gs : List Kd}, (∀ g ∈ gs, KOk l N g) → 0 ≤ sumC gs
  | [], _ => Int.le_refl 0
  | g :: gs, h => by
    have := (h g (by simp)).c0
    have := sumC0 (gs := gs) fun y hy => h y (by simp [hy])
    simp only [sumC]; omega
theorem tree_l0 (r : List Nd → Int → Option impl_tree) (l : List Nd) (K : Nat) (gs : List Kd) : (∀ g ∈ gs, r l g.x = some g.t) → ∀ (k : Nat) (ys : List Int) (v : impl_tree), gs.length < k → ys.length + gs.length ≤ 3 → v.kids.length + gs.length ≤ 1000 →
    impl_treeOf.l0 r l (ys ++ gs.map Kd.x) K k ys.length v = some ⟨v.n, v.kids ++ gs.map Kd.t⟩ := by
  induction gs with
  | nil =>
    intro h k ys v hk hy hv
    obtain ⟨k, rfl⟩ := succ_of hk
    rw [impl_treeOf.l0, if_neg (by simp)]
    cases v
    simp
  | cons g gs ih =>
    intro h k ys v hk hy hv
    obtain ⟨k, rfl⟩ := succ_of hk
    simp only [List.length_cons] at hk hy hv
    have e : w64 ((ys.length : Int) + 1) = ((ys ++ [g.x]).length : Int) := by rw [w64_of (by omega) (by omega)]; simp
    rw [impl_treeOf.l0, if_pos (by simp; omega), List.map_cons, at_mid, Option.bind_some, h g (by simp), Option.bind_some, gd_pos (by omega), e, show ys ++ g.x :: gs.map Kd.x = (ys ++ [g.x]) ++ gs.map Kd.x by simp,
      ih (fun y hy => h y (by simp [hy])) k (ys ++ [g.x]) _ (by omega) (by simp; omega) (by simp; omega)]
    simp
theorem part_l0 (r : List Nd → Int → Option (List Nd × Int)) (l : List Nd) (K : Nat) (gs : List Kd) : (∀ g ∈ gs, r l g.x = some (g.p, g.c) ∧ 0 ≤ g.c) → ∀ (k : Nat) (ys : List Int) (s : Int) (v : List (List Nd)), gs.length < k → ys.length + gs.length ≤ 3 → v.length + gs.length ≤ 1000 → 0 ≤ s → s + sumC gs ≤ 1000000 →
    spec_l14Part.l0 r l (ys ++ gs.map Kd.x) K k s ys.length v = some (s + sumC gs, v ++ gs.map Kd.p) := by
  induction gs with
  | nil =>
    intro h k ys s v hk hy hv h0 hs
    obtain ⟨k, rfl⟩ := succ_of hk
    rw [spec_l14Part.l0, if_neg (by simp)]
    simp [sumC]
  | cons g gs ih =>
    intro h k ys s v hk hy hv h0 hs
    obtain ⟨k, rfl⟩ := succ_of hk
    simp only [List.length_cons, sumC] at hk hy hv hs
    have hg := h g (by simp)
    have hc : 0 ≤ sumC gs := by
      have : ∀ gs : List Kd, (∀ g ∈ gs, 0 ≤ g.c) → 0 ≤ sumC gs := by
        intro gs
        induction gs with
        | nil => intro _; exact Int.le_refl 0
        | cons y ys ih => intro q; have := q y (by simp); have := ih fun z hz => q z (by simp [hz]); simp only [sumC]; omega
      exact this gs fun y hy => (h y (by simp [hy])).2
    have e : w64 ((ys.length : Int) + 1) = ((ys ++ [g.x]).length : Int) := by rw [w64_of (by omega) (by omega)]; simp
    rw [spec_l14Part.l0, if_pos (by simp; omega), List.map_cons, at_mid, Option.bind_some, hg.1]
    show gd _ (spec_l14Part.l0 r l (ys ++ g.x :: gs.map Kd.x) K k (w64 (s + g.c)) (w64 ((ys.length : Int) + 1)) (v ++ [g.p])) = _
    rw [gd_pos (by omega), e, w64_of (x := s + g.c) (by omega) (by omega), show ys ++ g.x :: gs.map Kd.x = (ys ++ [g.x]) ++ gs.map Kd.x by simp,
      ih (fun y hy => h y (by simp [hy])) k (ys ++ [g.x]) _ _ (by omega) (by simp; omega) (by simp; omega) (by omega) (by omega)]
    simp [sumC, Int.add_assoc]
theorem fold_l0 (r : impl_folder → impl_tree → Option (impl_tree × impl_folder)) (t : impl_tree) (K : Nat) (gs : List Kd) : (∀ g ∈ gs, 0 ≤ g.c ∧ ∀ s : Int, 0 ≤ s → s + g.c ≤ 1000000 → r ⟨s⟩ g.t = some (g.t', ⟨s + g.c⟩)) → ∀ (k : Nat) (ys : List impl_tree) (s : Int) (v : impl_tree), t.kids = ys ++ gs.map Kd.t → gs.length < k → ys.length + gs.length ≤ 3 → v.kids.length + gs.length ≤ 1000 → 0 ≤ s → s + sumC gs ≤ 1000000 →
    impl_folder_fold.l0 r t K k ys.length ⟨s⟩ v = some (⟨s + sumC gs⟩, ⟨v.n, v.kids ++ gs.map Kd.t'⟩) := by
  induction gs with
  | nil =>
    intro h k ys s v ht hk hy hv h0 hs
    obtain ⟨k, rfl⟩ := succ_of hk
    rw [impl_folder_fold.l0, ht, if_neg (by simp)]
    cases v
    simp [sumC]
  | cons g gs ih =>
    intro h k ys s v ht hk hy hv h0 hs
    obtain ⟨k, rfl⟩ := succ_of hk
    simp only [List.length_cons, sumC] at hk hy hv hs
    have hg := h g (by simp)
    have hc : 0 ≤ sumC gs := by
      have : ∀ gs : List Kd, (∀ g ∈ gs, 0 ≤ g.c) → 0 ≤ sumC gs := by
        intro gs
        induction gs with
        | nil => intro _; exact Int.le_refl 0
        | cons y ys ih => intro q; have := q y (by simp); have := ih fun z hz => q z (by simp [hz]); simp only [sumC]; omega
      exact this gs fun y hy => (h y (by simp [hy])).1
    have e : w64 ((ys.length : Int) + 1) = ((ys ++ [g.t]).length : Int) := by rw [w64_of (by omega) (by omega)]; simp
    rw [impl_folder_fold.l0, ht, if_pos (by simp; omega), List.map_cons, at_mid, Option.bind_some, hg.2 s h0 (by omega)]
    show gd _ (impl_folder_fold.l0 r t K k (w64 ((ys.length : Int) + 1)) ⟨s + g.c⟩ ⟨v.n, v.kids ++ [g.t']⟩) = _
    rw [gd_pos (by omega), e, ih (fun y hy => h y (by simp [hy])) k (ys ++ [g.t]) _ _ (by rw [ht]; simp) (by omega) (by simp; omega) (by simp; omega) (by omega) (by omega)]
    simp [sumC, Int.add_assoc]
theorem flat_l0 (r : List Nd → impl_tree → Option (List Nd)) (t : impl_tree) (K : Nat) (gs : List Kd) : (∀ g ∈ gs, ∀ out : List Nd, out.length + g.p.length ≤ 1000 → r out g.t' = some (out ++ shiftL out.length g.p)) → ∀ (k : Nat) (ys : List impl_tree) (o : List Nd) (n : Nd), t.kids = ys ++ gs.map Kd.t' → gs.length < k → ys.length + gs.length ≤ 3 → o.length + lens (gs.map Kd.p) ≤ 1000 →
    impl_flat.l0 r t K k ys.length o n = some ((glue ys.length n o (gs.map Kd.p)).2, (glue ys.length n o (gs.map Kd.p)).1) := by
  induction gs with
  | nil =>
    intro h k ys o n ht hk hy ho
    obtain ⟨k, rfl⟩ := succ_of hk
    rw [impl_flat.l0, ht, if_neg (by simp)]
    rfl
  | cons g gs ih =>
    intro h k ys o n ht hk hy ho
    obtain ⟨k, rfl⟩ := succ_of hk
    simp only [List.length_cons, List.map_cons, lens] at hk hy ho
    have e : w64 ((ys.length : Int) + 1) = ((ys ++ [g.t']).length : Int) := by rw [w64_of (by omega) (by omega)]; simp
    rw [impl_flat.l0, ht, if_pos (by simp; omega), jn, List.map_cons, at_mid, Option.bind_some, h g (by simp) o (by omega), Option.bind_some]
    have key : ∀ m : Nd, m = setKid ys.length n (w64 (((o.length + g.p.length : Nat) : Int) - 1)) → impl_flat.l0 r t K k (w64 ((ys.length : Int) + 1)) (o ++ shiftL o.length g.p) m = some ((glue ys.length n o (g.p :: gs.map Kd.p)).2, (glue ys.length n o (g.p :: gs.map Kd.p)).1) := by
      rintro m rfl
      rw [e, ih (fun y hy => h y (by simp [hy])) k (ys ++ [g.t']) _ _ (by rw [ht]; simp) (by omega) (by simp; omega) (by simp [shiftL_len]; omega), glue]
      simp
    have el : ((o ++ shiftL o.length g.p).length : Int) = ((o.length + g.p.length : Nat) : Int) := by simp [shiftL_len]
    rw [el]
    by_cases h0 : (ys.length : Int) = 0
    · rw [if_pos h0]
      exact key _ (by rw [setKid, if_pos (by omega)])
    · rw [if_neg h0]
      by_cases h1 : (ys.length : Int) = 1
      · rw [if_pos h1]
        exact key _ (by rw [setKid, if_neg (by omega), if_pos (by omega)])
      · rw [if_neg h1]
        by_cases h2 : (ys.length : Int) = 2
        · rw [if_pos h2]
          exact key _ (by rw [setKid, if_neg (by omega), if_neg (by omega)])
        · omega

/-! ### a node written down, and made a tree -/
def bare (n : Nd) : Nd := ⟨n.Kind, 0, 0, 0, n.N, n.Name, n.Other⟩
theorem flat_node {l : List Nd} {N : Nat} {gs : List Kd} (h : ∀ g ∈ gs, KOk l N g) (n : Nd) (ha : arityN n.Kind = gs.length) {K d : Nat} (hK : N + 1000 ≤ K) (hd : N + 1 ≤ d) {out : List Nd} (ho : out.length + lens (gs.map Kd.p) + 1 ≤ 1000) :
    impl_flat.r K d out ⟨n, gs.map Kd.t'⟩ = some (out ++ shiftL out.length (make n (gs.map Kd.p))) := by
  obtain ⟨d, rfl⟩ := succ_of (show N < d by omega)
  have al := arity_le n.Kind
  rw [impl_flat.r, impl_flat.b, jn]
  have q := flat_l0 (impl_flat.r K d) ⟨n, gs.map Kd.t'⟩ K gs (fun g hg => (h g hg).flat K d (by omega) (by omega)) K [] out n rfl (by omega) (by simp; omega) (by omega)
  rw [show (0 : Int) = (([] : List impl_tree).length : Int) from rfl, q]
  have gl := glue_len (gs.map Kd.p) 0 n out
  show gd (((glue 0 n out (gs.map Kd.p)).2.length + 1) * 72 ≤ 140737488355328) (some ((glue 0 n out (gs.map Kd.p)).2 ++ [(glue 0 n out (gs.map Kd.p)).1])) = _
  rw [gd_pos (by omega), glue_out out n _ (by simpa using ha) (by simp; omega)]
theorem tree_node {l : List Nd} {N : Nat} {gs : List Kd} (h : ∀ g ∈ gs, KOk l N g) (x : Nat) (hx : x < l.length) (hk : kids l[x] = gs.map Kd.x) {K d : Nat} (hK : N + 1000 ≤ K) (hd : N + 1 ≤ d) :
    impl_treeOf.r K d l (x : Int) = some ⟨bare l[x], gs.map Kd.t⟩ := by
  obtain ⟨d, rfl⟩ := succ_of (show N < d by omega)
  have al := arity_le l[x].Kind
  have kl := kids_len l[x]
  rw [hk, List.length_map] at kl
  rw [impl_treeOf.r, impl_treeOf.b, at_in l x hx, Option.bind_some, jn, impl_kids, Option.bind_some, hk]
  have q := tree_l0 (impl_treeOf.r K d) l K gs (fun g hg => (h g hg).tree K d (by omega) (by omega)) K [] ⟨l[x], []⟩ (by omega) (by simp; omega) (by simp; omega)
  rw [List.nil_append] at q
  rw [show (0 : Int) = (([] : List Int).length : Int) from rfl, q]
  rfl
end Go.Proofs.YtfmlamheflbgdaaDoorE
