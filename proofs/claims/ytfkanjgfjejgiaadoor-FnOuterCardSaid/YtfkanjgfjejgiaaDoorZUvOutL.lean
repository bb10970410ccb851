/- The law FnOuter: what a function takes from outside is bound over it, or is its own name. -/
import Derived.Test.YtfkanjgfjejgiaaDoorZUvOut
import Derived.Test.YtfkanjgfjejgiaaDoorZUvDr4
set_option linter.unusedSimpArgs false
set_option linter.unusedVariables false
namespace Go.Proofs.YtfkanjgfjejgiaaDoorE
open Go.Ev Go.RowKit
set_option linter.unusedVariables false
set_option linter.unusedSimpArgs false
/-! ### the functions of a program -/
def lamFrom (l : List Nd) : Nat → Nat → List Int → List Int
  | 0, _, y => y
  | d + 1, i, y => lamFrom l d (i + 1) (if funB (nd l i) = true then y ++ [(i : Int)] else y)
theorem impl_lam_l0 (l : List Nd) (hl : l.length ≤ 150) (K : Nat) (d : Nat) : ∀ (k i : Nat) (y : List Int), i + d = l.length → d < k → y.length ≤ i → impl_nodesOf.l0 l K k i y = some (lamFrom l d i y) := by
  induction d with
  | zero =>
    intro k i y hi hk hy
    obtain ⟨k, rfl⟩ := succ_of (show 0 < k by omega)
    rw [impl_nodesOf.l0, if_neg (by omega), lamFrom]
  | succ d ih =>
    intro k i y hi hk hy
    obtain ⟨k, rfl⟩ := succ_of (show 0 < k by omega)
    rw [impl_nodesOf.l0, if_pos (by omega)]
    simp only [jn]
    rw [at_nd l i (by omega), Option.bind_some, show impl_LambdasOf_1.f K (nd l i) = some (funB (nd l i)) from spec_lambda K _, Option.bind_some, w64_of (by omega) (by omega), lamFrom]
    by_cases h : funB (nd l i) = true
    · rw [if_pos h, if_pos h, gd_pos (by omega)]
      exact ih k (i + 1) _ (by omega) (by omega) (by simp; omega)
    · rw [if_neg h, if_neg h]
      exact ih k (i + 1) y (by omega) (by omega) (by omega)
theorem spec_lam_l0 (l : List Nd) (h : nodesOkB l = true) (hsm : ∀ n ∈ l, small n) (K : Nat) (hK : big ≤ K) (d : Nat) : ∀ (k i : Nat) (y : List Int), i + d = l.length → d < k → y.length ≤ i → spec_LambdasOf.l0 l K k i y = some (lamFrom l d i y) := by
  have hlen := ok_len h
  induction d with
  | zero =>
    intro k i y hi hk hy
    obtain ⟨k, rfl⟩ := succ_of (show 0 < k by omega)
    rw [spec_LambdasOf.l0]
    simp only [jn]
    rw [if_neg (by omega), if_neg (by simp), lamFrom]
  | succ d ih =>
    intro k i y hi hk hy
    obtain ⟨k, rfl⟩ := succ_of (show 0 < k by omega)
    rw [spec_LambdasOf.l0]
    simp only [jn]
    rw [if_pos (by omega), spec_nodesOk l (by omega) hsm K hK, Option.bind_some, h, if_pos rfl, at_nd l i (by omega), Option.bind_some, spec_lambda, Option.bind_some, w64_of (by omega) (by omega), lamFrom]
    by_cases h : funB (nd l i) = true
    · rw [if_pos h, if_pos h, gd_pos (by omega)]
      exact ih k (i + 1) _ (by omega) (by omega) (by simp; omega)
    · rw [if_neg h, if_neg h]
      exact ih k (i + 1) y (by omega) (by omega) (by omega)
def lamL (l : List Nd) : List Int := if nodesOkB l = true then lamFrom l l.length 0 [] else []
theorem impl_lam (l : List Nd) (hn : l.length ≤ 1048576) (hsm : ∀ n ∈ l, small n) (K : Nat) (hk : big ≤ K) : impl_LambdasOf.f K l = some (lamL l) := by
  have hk' := hk
  unfold big at hk'
  unfold impl_LambdasOf.f impl_nodesOf.f lamL
  simp only [jn]
  rw [impl_nodesOk l hn hsm K hk]
  simp only [Option.bind_some]
  by_cases h : nodesOkB l = true
  · have hlen := ok_len h
    have := impl_lam_l0 l hlen.2 K l.length K 0 [] (by omega) (by omega) (by simp)
    rw [show ((0 : Nat) : Int) = 0 from rfl] at this
    rw [h, if_neg (by simp), if_pos rfl, this]; rfl
  · rw [if_pos (by simpa using h), if_neg h]; rfl
theorem spec_lam (l : List Nd) (hn : l.length ≤ 1048576) (hsm : ∀ n ∈ l, small n) (K : Nat) (hk : big ≤ K) : spec_LambdasOf.f K l = some (lamL l) := by
  have hk' := hk
  unfold big at hk'
  unfold spec_LambdasOf.f lamL
  simp only [jn]
  by_cases h : nodesOkB l = true
  · have hlen := ok_len h
    have := spec_lam_l0 l h hsm K hk l.length K 0 [] (by omega) (by omega) (by simp)
    rw [show ((0 : Nat) : Int) = 0 from rfl] at this
    rw [this, if_pos h]; rfl
  · obtain ⟨k, hk2⟩ := succ_of (show 0 < K by omega)
    have e : spec_LambdasOf.l0 l K (k + 1) 0 [] = some [] := by
      rw [spec_LambdasOf.l0]
      simp only [jn]
      by_cases hp : (0 : Int) < l.length
      · rw [if_pos hp, spec_nodesOk l hn hsm K hk, Option.bind_some, if_neg h]
      · rw [if_neg hp, if_neg (by simp)]
    rw [← hk2] at e
    rw [e, if_neg h]; rfl
/-! ### the uses of a binder -/
def usesFrom (l : List Nd) (b : Bi) : Nat → Nat → List Int → List Int
  | 0, _, y => y
  | d + 1, i, y => usesFrom l b d (i + 1) (if (nd l i).Kind = 1 ∧ eqB (binderB l i) b = true then y ++ [(i : Int)] else y)
theorem uses_old (l : List Nd) (b : Bi) (z : Int) : ∀ (d i : Nat) (y : List Int), z ∈ y → z ∈ usesFrom l b d i y
  | 0, i, y, h => h
  | d + 1, i, y, h => by
    rw [usesFrom]
    refine uses_old l b z d _ _ ?_
    split
    · exact List.mem_append.2 (.inl h)
    · exact h
theorem uses_new (l : List Nd) (b : Bi) (x : Nat) (h : (nd l x).Kind = 1 ∧ eqB (binderB l x) b = true) : ∀ (d i : Nat) (y : List Int), i ≤ x → x < i + d → (x : Int) ∈ usesFrom l b d i y
  | 0, i, y, h1, h2 => by omega
  | d + 1, i, y, h1, h2 => by
    rw [usesFrom]
    by_cases e : i = x
    · subst e
      rw [if_pos h]
      exact uses_old l b _ d _ _ (by simp)
    · exact uses_new l b x h d _ _ (by omega) (by omega)
theorem uses_len (l : List Nd) (b : Bi) : ∀ (d i : Nat) (y : List Int), (usesFrom l b d i y).length ≤ y.length + d
  | 0, i, y => by simp [usesFrom]
  | d + 1, i, y => by
    rw [usesFrom]
    have := uses_len l b d (i + 1) (if (nd l i).Kind = 1 ∧ eqB (binderB l i) b = true then y ++ [(i : Int)] else y)
    split at this <;> split <;> simp_all <;> omega
theorem spec_uses_l0 (l : List Nd) (b : Bi) (hb : b.Node ≥ 0) (h : nodesOkB l = true) (hsm : ∀ n ∈ l, small n) (K : Nat) (hK : big ≤ K) (d : Nat) : ∀ (k i : Nat) (y : List Int), i + d = l.length → d < k → y.length ≤ i → spec_UsesOf.l0 l b K k i y = some (usesFrom l b d i y) := by
  have hlen := ok_len h
  induction d with
  | zero =>
    intro k i y hi hk hy
    obtain ⟨k, rfl⟩ := succ_of (show 0 < k by omega)
    rw [spec_UsesOf.l0]
    simp only [jn]
    rw [if_neg (by omega), if_neg (by simp), usesFrom]
  | succ d ih =>
    intro k i y hi hk hy
    obtain ⟨k, rfl⟩ := succ_of (show 0 < k by omega)
    rw [spec_UsesOf.l0]
    simp only [jn]
    rw [if_pos (by omega), spec_nodesOk l (by omega) hsm K hK, Option.bind_some, h, if_pos rfl, decide_eq_true hb, if_pos rfl, at_nd l i (by omega), Option.bind_some, w64_of (by omega) (by omega), usesFrom]
    by_cases h1 : (nd l i).Kind = 1
    · rw [if_pos h1, spec_binder h hsm i (by omega) K hK, Option.bind_some]
      show (if eqB (binderB l i) b = true then _ else _) = _
      by_cases h2 : eqB (binderB l i) b = true
      · rw [if_pos h2, if_pos ⟨h1, h2⟩, gd_pos (by omega)]
        exact ih k (i + 1) _ (by omega) (by omega) (by simp; omega)
      · rw [if_neg h2, if_neg (fun q => h2 q.2)]
        exact ih k (i + 1) y (by omega) (by omega) (by omega)
    · rw [if_neg h1, if_neg (by simp), if_neg (fun q => h1 q.1)]
      exact ih k (i + 1) y (by omega) (by omega) (by omega)
theorem spec_uses (l : List Nd) (b : Bi) (hb : b.Node ≥ 0) (h : nodesOkB l = true) (hsm : ∀ n ∈ l, small n) (K : Nat) (hk : big ≤ K) : spec_UsesOf.f K l b = some (usesFrom l b l.length 0 []) := by
  have hk' := hk
  unfold big at hk'
  have hlen := ok_len h
  unfold spec_UsesOf.f
  simp only [jn]
  have := spec_uses_l0 l b hb h hsm K hk l.length K 0 [] (by omega) (by omega) (by simp)
  rw [show ((0 : Nat) : Int) = 0 from rfl] at this
  rw [this]; rfl
/-! ### the law's loops -/
def inU (A s u : Int) : Bool := decide (u ≤ A) && decide (u ≥ s)
theorem law_l1 {l : List Nd} (h : nodesOkB l = true) (hsm : ∀ n ∈ l, small n) (f : Nat) (hf : f < l.length) (A : Nat) (hA : A < l.length) (hfa : (nd l f).A = A) (us : List Int) (hus : us.length ≤ 1000) (K : Nat) (hK : big ≤ K) (d : Nat) : ∀ (k i : Nat) (c : Bool), i + d = us.length → d < k →
    laws_FnOuter.l1 l f us K k c i = some (c || (us.drop i).any (inU A (rd (startsL l) (A : Int)))) := by
  induction d with
  | zero =>
    intro k i c hi hk
    obtain ⟨k, rfl⟩ := succ_of (show 0 < k by omega)
    rw [laws_FnOuter.l1, if_neg (by omega), List.drop_eq_nil_of_le (by omega)]
    simp
  | succ d ih =>
    intro k i c hi hk
    obtain ⟨k, rfl⟩ := succ_of (show 0 < k by omega)
    rw [laws_FnOuter.l1, if_pos (by omega)]
    simp only [jn]
    rw [List.drop_eq_getElem_cons (show i < us.length by omega), w64_of (by omega) (by omega), List.any_cons]
    have e : ((i : Int) + 1) = ((i + 1 : Nat) : Int) := by omega
    rw [e]
    cases c with
    | true =>
      rw [if_pos rfl, ih k (i + 1) true (by omega) (by omega), Bool.true_or, Bool.true_or]
    | false =>
      rw [if_neg (by simp), at_in us i (by omega), Option.bind_some, at_nd l f hf, Option.bind_some, hfa, spec_start h hsm A hA K hK, Option.bind_some, Bool.false_or]
      by_cases h1 : us[i] ≤ (A : Int)
      · rw [if_pos h1, ih k (i + 1) _ (by omega) (by omega)]
        simp [inU, h1]
      · rw [if_neg h1, ih k (i + 1) _ (by omega) (by omega)]
        simp [inU, h1]
theorem outer_mem (l : List Nd) (f A t r : Int) : ∀ (d i : Nat) (y : List Bi) (b : Bi), b ∈ outerFrom l f A t r d i y → b ∈ y ∨ ∃ x, i ≤ x ∧ x < i + d ∧ b = binderB l x ∧ skipB f A t r b = false
  | 0, i, y, b, h => .inl h
  | d + 1, i, y, b, h => by
    rw [outerFrom] at h
    split at h
    · rcases outer_mem l f A t r d _ _ b h with q | ⟨x, h1, h2, h3, h4⟩
      · exact .inl q
      · exact .inr ⟨x, by omega, by omega, h3, h4⟩
    · rename_i hs
      rcases outer_mem l f A t r d _ _ b h with q | ⟨x, h1, h2, h3, h4⟩
      · rcases List.mem_append.1 q with q | q
        · exact .inl q
        · rw [List.mem_singleton] at q
          refine .inr ⟨i, by omega, by omega, q, ?_⟩
          rw [q]
          simp only [Bool.or_eq_true, not_or, Bool.not_eq_true] at hs
          exact hs.1
      · exact .inr ⟨x, by omega, by omega, h3, h4⟩
/-- What the law asks of a binder from outside. -/
def GoodB (l : List Nd) (f : Nat) (A : Nat) (s : Int) (b : Bi) : Prop := f ≤ b.Node ∧ (b.Node = f → (nd l f).Kind = 6 ∧ b.Role = 0) ∧ ∃ x : Nat, s ≤ x ∧ x ≤ A ∧ (nd l x).Kind = 1 ∧ binderB l x = b
theorem outer_good {l : List Nd} (h : nodesOkB l = true) (f : Nat) (hf : f < l.length) (hfun : funB (nd l f) = true) (A s : Nat) (hA : (nd l f).A = A) (hAf : A < f) (hs : rd (startsL l) (A : Int) = s) (hsA : s ≤ A) (hp : parOf l A = f) : ∀ b ∈ outerOfL l f, GoodB l f A s b := by
  intro b hb
  unfold outerOfL at hb
  rw [Int.toNat_natCast, hA, hs] at hb
  rcases outer_mem _ _ _ _ _ _ _ _ _ hb with q | ⟨x, h1, h2, h3, h4⟩
  · cases q
  have hx1 : s ≤ x := by omega
  have hx2 : x ≤ A := by omega
  have hin := binder_in h A f (by omega) hp x (by omega) hx2
  rw [← h3] at hin
  unfold skipB at h4
  simp only [Bool.or_eq_false_iff, Bool.and_eq_false_iff, decide_eq_false_iff_not] at h4
  obtain ⟨n0, n1, n2⟩ := h4
  have hk : (nd l x).Kind = 1 := by
    refine Decidable.byContradiction fun hk => ?_
    unfold binderB at h3
    rw [if_neg hk] at h3
    subst h3
    exact n0 (by show (-1 : Int) < 0; omega)
  refine ⟨by omega, fun e => ?_, x, by omega, hx2, hk, h3.symm⟩
  have hr : b.Role ≠ roleP (nd l f) := by
    rcases n2 with n | n
    · exact absurd e n
    · exact n
  rcases up_role l (nd l x).Name (l.length + 1) x (parOf l x) with q | ⟨y, hy⟩
  · unfold binderB at h3
    rw [if_pos hk, q] at h3
    subst h3
    exact absurd e (by show (-1 : Int) ≠ f; omega)
  · have h3' := h3
    unfold binderB at h3'
    rw [if_pos hk] at h3'
    rw [← h3', e, Int.toNat_natCast] at hy
    unfold funB at hfun
    simp only [Bool.or_eq_true, decide_eq_true_eq] at hfun
    unfold roleP at hr
    rcases hfun with k3 | k6
    · rw [if_neg (by omega)] at hr
      unfold bindN at hy
      rw [if_pos k3] at hy
      simp at hy
      exact absurd hy hr
    · rw [if_pos k6] at hr
      refine ⟨k6, ?_⟩
      unfold bindN at hy
      rw [if_neg (by omega), if_neg (by omega), if_pos k6] at hy
      split at hy
      · simp at hy; rcases hy with q | q
        · exact absurd q hr
        · exact q
      · simpa using hy
theorem law_l0 {l : List Nd} (h : nodesOkB l = true) (hsm : ∀ n ∈ l, small n) (f : Nat) (hf : f < l.length) (A s : Nat) (hA : (nd l f).A = A) (hAf : A < f) (hs : rd (startsL l) (A : Int) = s) (o : List Bi) (ho : o.length ≤ 1000) (K : Nat) (hK : big ≤ K) (d : Nat) : ∀ (k i : Nat), i + d = o.length → d < k → (∀ b ∈ o, GoodB l f A s b) → laws_FnOuter.l0 l f o K k i = some (.inr ()) := by
  have hK' := hK
  unfold big at hK'
  have hlen := ok_len h
  induction d with
  | zero =>
    intro k i hi hk _
    obtain ⟨k, rfl⟩ := succ_of (show 0 < k by omega)
    rw [laws_FnOuter.l0, if_neg (by omega)]
  | succ d ih =>
    intro k i hi hk hg
    obtain ⟨k, rfl⟩ := succ_of (show 0 < k by omega)
    obtain ⟨g1, g2, x, x1, x2, x3, x4⟩ := hg o[i] (List.getElem_mem _)
    rw [laws_FnOuter.l0, if_pos (by omega)]
    simp only [jn]
    rw [at_in o i (by omega), Option.bind_some, if_neg (by omega), at_nd l f hf, Option.bind_some]
    have fin : ((spec_UsesOf.f K l o[i]).bind fun y35 => (laws_FnOuter.l1 l f y35 K K false 0).bind fun v40 => if (!v40) = true then some (Sum.inl false) else laws_FnOuter.l0 l f o K k (w64 ((i : Int) + 1))) = some (Sum.inr ()) := by
      have ul := uses_len l o[i] l.length 0 []
      simp at ul
      have q := law_l1 h hsm f hf A (by omega) hA (usesFrom l o[i] l.length 0 []) (by omega) K hK (usesFrom l o[i] l.length 0 []).length K 0 false (by omega) (by omega)
      rw [show ((0 : Nat) : Int) = 0 from rfl] at q
      have hx : x < l.length := by omega
      have ha : (usesFrom l o[i] l.length 0 []).any (inU A s) = true := List.any_eq_true.2 ⟨x, uses_new l o[i] x ⟨x3, (eqB_iff _ _).2 x4⟩ _ _ _ (by omega) (by omega), by unfold inU; simp; omega⟩
      rw [spec_uses l o[i] (by omega) h hsm K hK, Option.bind_some, q, Option.bind_some, List.drop_zero, hs, ha, w64_of (by omega) (by omega)]
      exact ih k (i + 1) (by omega) (by omega) hg
    by_cases e : o[i].Node = f
    · obtain ⟨e6, e0⟩ := g2 e
      simp only [e, e6, e0, if_true, decide_true, Bool.not_true, Bool.false_eq_true, if_false, Option.bind_some]
      exact fin
    · simp only [if_neg e, Bool.false_eq_true, if_false, Option.bind_some]
      exact fin
/-! ### homes in a body -/
theorem home_in {l : List Nd} (h : nodesOkB l = true) (f : Nat) (A : Nat) (hA : A < l.length) (hAf : A < f) (hfun : funB (nd l f) = true) (hfa : (nd l f).A = A) (hp : parOf l A = f) (d : Nat) : ∀ x : Nat, rd (startsL l) (A : Int) ≤ x → x ≤ A → homeUp l d x (parOf l x) ≤ f := by
  induction d with
  | zero => intro x _ _; simp only [homeUp]; omega
  | succ d ih =>
    intro x h0 h1
    by_cases hx : x = A
    · subst hx
      rw [hp, homeUp, if_pos (by omega), Int.toNat_natCast, if_pos ⟨hfun, hfa⟩]
      exact Int.le_refl _
    · have hpi := par_in h A hA x h0 (by omega)
      obtain ⟨q, hq⟩ : ∃ q : Nat, parOf l x = (q : Int) := ⟨(parOf l x).toNat, by omega⟩
      rw [hq] at hpi ⊢
      rw [homeUp, if_pos (by omega)]
      split
      · omega
      · exact ih q (by omega) (by omega)
theorem law_l2 {l : List Nd} (h : nodesOkB l = true) (hsm : ∀ n ∈ l, small n) (f : Nat) (hf : f < l.length) (A s : Nat) (hA : (nd l f).A = A) (hAf : A < f) (hs : rd (startsL l) (A : Int) = s) (hh : ∀ x : Nat, s ≤ x → x ≤ A → homeB l x ≤ f) (K : Nat) (hK : big ≤ K) (d : Nat) : ∀ (k i : Nat), i + d = A + 1 → s ≤ i → d < k → laws_FnOuter.l2 l f K k i = some (.inr ()) := by
  have hlen := ok_len h
  induction d with
  | zero =>
    intro k i hi _ hk
    obtain ⟨k, rfl⟩ := succ_of (show 0 < k by omega)
    rw [laws_FnOuter.l2, at_nd l f hf, Option.bind_some, hA, if_neg (by omega)]
  | succ d ih =>
    intro k i hi h0 hk
    obtain ⟨k, rfl⟩ := succ_of (show 0 < k by omega)
    rw [laws_FnOuter.l2, at_nd l f hf, Option.bind_some, hA, if_pos (by omega)]
    simp only [jn]
    rw [at_nd l i (by omega), Option.bind_some, w64_of (by omega) (by omega)]
    have := hh i h0 (by omega)
    by_cases h1 : (nd l i).Kind = 1
    · rw [if_pos h1, impl_home l i (by omega) hsm K hK, Option.bind_some, if_neg (by simp; omega)]
      exact ih k (i + 1) (by omega) (by omega) (by omega)
    · rw [if_neg h1, if_neg (by simp)]
      exact ih k (i + 1) (by omega) (by omega) (by omega)
theorem few_small {l : List Nd} (h : FewE 364 l) : ∀ n ∈ l, small n := fun n hn => ⟨by have := (h.2 n hn).1; omega, by have := (h.2 n hn).2; omega⟩
/-- The law. -/
theorem law_outer (a : List Int) : ∃ K, laws_FnOuter.f K a = some true := by
  refine ⟨3000000, ?_⟩
  have hK : big ≤ 3000000 := by decide
  generalize hKe : (3000000 : Nat) = K at hK ⊢
  unfold laws_FnOuter.f laws_big.f
  rw [Option.bind_some]
  by_cases ha : (a.length : Int) > 1048576
  · rw [decide_eq_true ha, if_pos rfl]
  rw [decide_eq_false ha, if_neg (by simp)]
  have hd : Tot (spec_DrawOuterOf.f K a) fun r => FewE 364 r.1 := by
    unfold spec_DrawOuterOf.f
    refine Tot.bind (t_new a (by omega) (by omega)) fun c hc => Tot.bind (t_l16 (by omega) hc) fun r hr => Tot.ret hr.1
  obtain ⟨⟨l, f⟩, e, hl⟩ := hd
  simp only at hl
  have hsm := few_small hl
  have hn : l.length ≤ 1048576 := by have := hl.1; omega
  rw [e, Option.bind_some]
  simp only
  rw [impl_outer l f hn hsm K hK, Option.bind_some]
  simp only [jn]
  rw [spec_outer l f hn hsm K hK, Option.bind_some, if_neg (by simp), impl_lam l hn hsm K hK, Option.bind_some, spec_lam l hn hsm K hK, Option.bind_some, if_neg (by simp)]
  by_cases h0 : ((outerB l f).length : Int) = 0
  · rw [if_pos h0]
  rw [if_neg h0]
  unfold outerB at h0 ⊢
  by_cases h : nodesOkB l = true
  rotate_left
  · rw [if_neg h] at h0; exact absurd rfl h0
  have hlen := ok_len h
  rw [if_pos h] at h0 ⊢
  by_cases hin : inB f 0 ((l.length : Int) - 1) = true
  rotate_left
  · rw [if_neg hin] at h0; exact absurd rfl h0
  rw [if_pos hin] at h0 ⊢
  have hr : 0 ≤ f ∧ f ≤ (l.length : Int) - 1 := by unfold inB at hin; simpa using hin
  obtain ⟨f, rfl⟩ : ∃ g : Nat, f = (g : Int) := ⟨f.toNat, by omega⟩
  rw [Int.toNat_natCast] at h0 ⊢
  by_cases hfun : funB (nd l f) = true
  rotate_left
  · rw [if_neg hfun] at h0; exact absurd rfl h0
  rw [if_pos hfun]
  have hf : f < l.length := by omega
  obtain ⟨A, s, hA, hAf, hs, hsA, hp⟩ := fun_node h f hf hfun
  have hgood := outer_good h f hf hfun A s hA hAf hs hsA hp
  have hol : (outerOfL l f).length ≤ 1000 := by
    unfold outerOfL
    have key : ∀ (d i : Nat) (y : List Bi) (u v w : Int), (outerFrom l u v w (roleP (nd l f)) d i y).length ≤ y.length + d := by
      intro d
      induction d with
      | zero => intro i y u v w; simp [outerFrom]
      | succ d ih =>
        intro i y u v w
        rw [outerFrom]
        split
        · have := ih (i + 1) y u v w; omega
        · have := ih (i + 1) (y ++ [binderB l i]) u v w
          simp at this; omega
    have := key ((nd l f).A + 1 - rd (startsL l) (nd l f).A).toNat (rd (startsL l) (nd l f).A).toNat [] f (nd l f).A (rd (startsL l) (nd l f).A)
    rw [Int.toNat_natCast]
    simp only [List.length_nil] at this
    rw [hA, hs] at this ⊢
    omega
  have q0 := law_l0 h hsm f hf A s hA hAf hs (outerOfL l f) hol K hK (outerOfL l f).length K 0 (by omega) (by omega) hgood
  have hhome : ∀ x : Nat, s ≤ x → x ≤ A → homeB l x ≤ f := by
    intro x h1 h2
    unfold homeB homeOf
    rw [if_pos h]
    split
    · exact home_in h f A (by omega) hAf hfun hA hp (l.length + 1) x (by omega) h2
    · omega
  have q2 := law_l2 h hsm f hf A s hA hAf hs hhome K hK (A + 1 - s) K s (by omega) (by omega) (by omega)
  have qh : homeB l A = f := by
    unfold homeB homeOf
    rw [if_pos h, if_pos (by unfold inB; simp; omega), hp, homeUp, if_pos (by omega), Int.toNat_natCast, if_pos ⟨hfun, hA⟩]
  rw [show ((0 : Nat) : Int) = 0 from rfl] at q0
  rw [spec_nodesOk l hn hsm K hK, Option.bind_some, h, if_neg (by simp), if_neg (by omega), decide_eq_false (by omega), if_neg (by simp), q0]
  simp only [lb]
  rw [at_nd l f hf, Option.bind_some, hA, spec_start h hsm A (by omega) K hK, hs, Option.bind_some, q2]
  simp only [Option.bind_some]
  rw [hA, impl_home l A hn hsm K hK, qh, Option.bind_some]
  simp
end Go.Proofs.YtfkanjgfjejgiaaDoorE
