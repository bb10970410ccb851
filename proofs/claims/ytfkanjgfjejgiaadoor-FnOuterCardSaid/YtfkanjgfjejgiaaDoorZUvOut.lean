/- OuterOf: the binders outside a function's body, in the program and in the reference; LambdasOf. -/
import Derived.Test.YtfkanjgfjejgiaaDoorZUvBind
set_option linter.unusedSimpArgs false
set_option linter.unusedVariables false
namespace Go.Proofs.YtfkanjgfjejgiaaDoorE
open Go.Ev
set_option linter.unusedVariables false
set_option linter.unusedSimpArgs false
theorem impl_start {l : List Nd} (h : nodesOkB l = true) (K : Nat) (x : Nat) : x < l.length → ∀ k, x < k → impl_startOf.l0 l K k x = some (rd (startsL l) (x : Int)) := by
  induction x using Nat.strongRecOn with
  | ind x ih =>
    intro hx k hk
    obtain ⟨k, rfl⟩ := succ_of (show 0 < k by omega)
    rw [impl_startOf.l0, at_nd l x hx, Option.bind_some, impl_arity, Option.bind_some]
    by_cases ha : arityN (nd l x).Kind = 0
    · rw [if_neg (by omega), start_leaf h x hx ha]
    · obtain ⟨e, h0, h1⟩ := start_step h x hx (by omega)
      obtain ⟨q, hq⟩ : ∃ q : Nat, (nd l x).A = (q : Int) := ⟨(nd l x).A.toNat, by omega⟩
      rw [if_pos (by omega), e, hq]
      exact ih q (by omega) (by omega) k (by omega)
theorem spec_start {l : List Nd} (h : nodesOkB l = true) (hsm : ∀ n ∈ l, small n) (x : Nat) (hx : x < l.length) (K : Nat) (hk : big ≤ K) : spec_StartOf.f K l x = some (rd (startsL l) (x : Int)) := by
  have hk' := hk
  unfold big at hk'
  have hlen := ok_len h
  obtain ⟨hg, hs, _⟩ := startsL_ok h
  unfold spec_StartOf.f
  simp only [jn]
  have hin : inB (x : Int) 0 ((l.length : Int) - 1) = true := by unfold inB; simp; omega
  rw [spec_nodesOk l (by omega) hsm K hk, Option.bind_some, h, if_neg (by simp), w64_of (by omega) (by omega), spec_inB, Option.bind_some, hin]
  unfold spec_l3Starts.f
  simp only [jn]
  have q := spec_starts K hk l K [] [] rfl starts_nil hsm (by omega) (by simp; omega)
  rw [List.nil_append, hg] at q
  rw [show (0 : Int) = (([] : List Nd).length : Int) from rfl, q]
  simp only [lb, Bool.not_true, Bool.false_eq_true, if_false, Option.bind_some]
  rw [at_rd _ (x : Int) (by omega) (by rw [hs.1]; omega), Option.bind_some]
theorem up_ge {l : List Nd} (h : nodesOkB l = true) (s : ByteArray) (d : Nat) : ∀ x p : Int, (binderUp l s d x p).Node = -1 ∨ p ≤ (binderUp l s d x p).Node := by
  induction d with
  | zero => intro x p; exact .inl rfl
  | succ d ih =>
    intro x p
    simp only [binderUp]
    split
    · split
      · exact .inr (Int.le_refl _)
      · have hg := parOf_gt h p
        rcases ih p (parOf l p) with h1 | h1
        · exact .inl h1
        · rcases hg with h2 | h2
          · rw [h2, binderUp_stop _ _ _ _ _ (by omega)]
            exact .inl rfl
          · exact .inr (by omega)
    · exact .inl rfl
theorem up_in {l : List Nd} (h : nodesOkB l = true) (s : ByteArray) (A f : Nat) (hA : A < l.length) (hf : parOf l A = f) (d : Nat) : ∀ x : Nat, rd (startsL l) (A : Int) ≤ x → x ≤ A → (binderUp l s d x (parOf l x)).Node = -1 ∨ (rd (startsL l) (A : Int) ≤ (binderUp l s d x (parOf l x)).Node ∧ (binderUp l s d x (parOf l x)).Node ≤ A) ∨ f ≤ (binderUp l s d x (parOf l x)).Node := by
  induction d with
  | zero => intro x _ _; exact .inl rfl
  | succ d ih =>
    intro x h0 h1
    by_cases hx : x = A
    · subst hx
      rcases up_ge h s (d + 1) x (parOf l x) with h2 | h2
      · exact .inl h2
      · exact .inr (.inr (by omega))
    · have hp := par_in h A hA x h0 (by omega)
      obtain ⟨q, hq⟩ : ∃ q : Nat, parOf l x = (q : Int) := ⟨(parOf l x).toNat, by omega⟩
      rw [hq] at hp ⊢
      simp only [binderUp]
      rw [if_pos (by omega)]
      split
      · exact .inr (.inl ⟨by show _ ≤ (q : Int); omega, by show (q : Int) ≤ _; omega⟩)
      · exact ih q (by omega) (by omega)
theorem binder_in {l : List Nd} (h : nodesOkB l = true) (A f : Nat) (hA : A < l.length) (hf : parOf l A = f) (x : Nat) (h0 : rd (startsL l) (A : Int) ≤ x) (h1 : x ≤ A) : (binderB l x).Node = -1 ∨ (rd (startsL l) (A : Int) ≤ (binderB l x).Node ∧ (binderB l x).Node ≤ A) ∨ f ≤ (binderB l x).Node := by
  unfold binderB
  split
  · exact up_in h _ A f hA hf _ x h0 h1
  · exact .inl rfl

theorem fun_arity (n : Nd) (h : funB n = true) : 0 < arityN n.Kind := by
  unfold funB at h
  simp only [Bool.or_eq_true, decide_eq_true_eq] at h
  rcases h with h | h <;> rw [h] <;> decide
/-- What is known of a function's node. -/
theorem fun_node {l : List Nd} (h : nodesOkB l = true) (f : Nat) (hf : f < l.length) (hfun : funB (nd l f) = true) : ∃ A s : Nat, (nd l f).A = A ∧ A < f ∧ rd (startsL l) (A : Int) = s ∧ s ≤ A ∧ parOf l A = f := by
  have ha := fun_arity _ hfun
  obtain ⟨_, h0, h1⟩ := start_step h f hf ha
  obtain ⟨A, hA⟩ : ∃ A : Nat, (nd l f).A = (A : Int) := ⟨(nd l f).A.toNat, by omega⟩
  have hs := st_le h A (by omega)
  refine ⟨A, (rd (startsL l) (A : Int)).toNat, hA, by omega, by omega, by omega, par_eq h A f hf ((hasKid_iff _ _).2 ⟨0, ha, ?_⟩)⟩
  rw [show ((0 : Nat) : Int) = 0 from rfl, kid0 _ ha, hA]
/-- The role of a binder is one that its node gives. -/
theorem up_role (l : List Nd) (s : ByteArray) (d : Nat) : ∀ x p, binderUp l s d x p = noB ∨ ∃ y, (binderUp l s d x p).Role ∈ (bindN (nd l (binderUp l s d x p).Node.toNat) y).2 := by
  induction d with
  | zero => intro x p; exact .inl rfl
  | succ d ih =>
    intro x p
    simp only [binderUp]
    split
    · split
      · rename_i r hr
        right
        refine ⟨x, ?_⟩
        unfold roleB at hr
        have key : ∀ (ns : List ByteArray) (rs : List Int) (e j : Nat), ns.length = rs.length → j + e = ns.length → roleFrom ns rs s e j = some r → r ∈ rs := by
          intro ns rs e
          induction e with
          | zero => intro j _ _ h; cases h
          | succ e ih2 =>
            intro j h1 h2 h
            rw [roleFrom] at h
            split at h
            · cases h
              rw [rd_nat, show rs.getD j 0 = rs[j]'(by omega) by simp [List.getD, show j < rs.length by omega]]
              exact List.getElem_mem _
            · exact ih2 (j + 1) h1 (by omega) h
        show r ∈ (bindN (nd l p.toNat) x).2
        exact key _ _ _ 0 (bind_len _ _).1.symm (by omega) hr
      · exact ih _ _
    · exact .inl rfl
/-! ### the loops -/
def eqB (x b : Bi) : Bool := decide (x.Node = b.Node) && (decide (x.Role = b.Role) && true)
theorem eqB_iff (x b : Bi) : eqB x b = true ↔ x = b := by
  unfold eqB
  cases x; cases b
  simp
def anyFrom (y : List Bi) (b : Bi) : Nat → Nat → Bool
  | 0, _ => false
  | e + 1, j => eqB (y.getD j noB) b || anyFrom y b e (j + 1)
def skipB (f A t r : Int) (b : Bi) : Bool := decide (b.Node < 0) || ((decide (t ≤ b.Node) && decide (b.Node ≤ A)) || (decide (b.Node = f) && decide (b.Role = r)))
def outerFrom (l : List Nd) (f A t r : Int) : Nat → Nat → List Bi → List Bi
  | 0, _, y => y
  | d + 1, i, y => if (skipB f A t r (binderB l i) || anyFrom y (binderB l i) y.length 0) = true then outerFrom l f A t r d (i + 1) y else outerFrom l f A t r d (i + 1) (y ++ [binderB l i])
def roleP (n : Nd) : Int := if n.Kind = 6 then 1 else 0
theorem impl_has_l1 (y : List Bi) (b : Bi) (hy : y.length ≤ 4000000) (K : Nat) (e : Nat) : ∀ (k j : Nat) (c : Bool), j + e = y.length → e < k → impl_outerOf.l1 y b K k c j = some (c || anyFrom y b e j) := by
  induction e with
  | zero =>
    intro k j c hj hk
    obtain ⟨k, rfl⟩ := succ_of hk
    rw [impl_outerOf.l1, if_neg (by omega), anyFrom, Bool.or_false]
  | succ e ih =>
    intro k j c hj hk
    obtain ⟨k, rfl⟩ := succ_of hk
    rw [impl_outerOf.l1, if_pos (by omega)]
    simp only [jn]
    rw [at_getD y noB j (by omega), Option.bind_some, w64_of (by omega) (by omega), anyFrom]
    cases c with
    | true =>
      rw [if_pos rfl]
      have := ih k (j + 1) true (by omega) (by omega)
      rw [Bool.true_or] at this ⊢
      exact this
    | false =>
      rw [if_neg (by simp), Bool.false_or]
      exact ih k (j + 1) _ (by omega) (by omega)
theorem spec_has_l1 (y : List Bi) (b : Bi) (hy : y.length ≤ 4000000) (K : Nat) (e : Nat) : ∀ (k j : Nat) (c : Bool), j + e = y.length → e < k → spec_OuterOf.l1 y b K k c j = some (c || anyFrom y b e j) := by
  induction e with
  | zero =>
    intro k j c hj hk
    obtain ⟨k, rfl⟩ := succ_of hk
    rw [spec_OuterOf.l1, if_neg (by omega), anyFrom, Bool.or_false]
  | succ e ih =>
    intro k j c hj hk
    obtain ⟨k, rfl⟩ := succ_of hk
    rw [spec_OuterOf.l1, if_pos (by omega)]
    simp only [jn]
    rw [at_getD y noB j (by omega), Option.bind_some, w64_of (by omega) (by omega), anyFrom]
    cases c with
    | true =>
      rw [if_pos rfl]
      have := ih k (j + 1) true (by omega) (by omega)
      rw [Bool.true_or] at this ⊢
      exact this
    | false =>
      rw [if_neg (by simp), Bool.false_or]
      exact ih k (j + 1) _ (by omega) (by omega)
theorem impl_outer_l0 {l : List Nd} (h : nodesOkB l = true) (f : Nat) (hf : f < l.length) (A : Nat) (hA : A < l.length) (t : Int) (K : Nat) (hK : 2000 ≤ K) (d : Nat) : ∀ (k i : Nat) (y : List Bi), i + d = A + 1 → d < k → y.length + d ≤ 150 →
    impl_outerOf.l0 l (bindersL l) f t A K k i y = some (outerFrom l f A t (roleP (nd l f)) d i y) := by
  have hlen := ok_len h
  induction d with
  | zero =>
    intro k i y hi hk hy
    obtain ⟨k, rfl⟩ := succ_of (show 0 < k by omega)
    rw [impl_outerOf.l0, if_neg (by omega), outerFrom]
  | succ d ih =>
    intro k i y hi hk hy
    obtain ⟨k, rfl⟩ := succ_of (show 0 < k by omega)
    rw [impl_outerOf.l0, if_pos (by omega)]
    simp only [jn]
    rw [at_binders l i (by omega), Option.bind_some, w64_of (x := (i : Int) + 1) (by omega) (by omega)]
    have fin : ∀ c : Bool, c = skipB f A t (roleP (nd l f)) (binderB l i) → ((impl_outerOf.l1 y (binderB l i) K K c 0).bind fun (v21 : Bool) => if (!v21) = true then gd ((y.length + 1) * 16 ≤ 140737488355328) (impl_outerOf.l0 l (bindersL l) f t A K k ((i : Int) + 1) (y ++ ([binderB l i] : List impl_Bind))) else impl_outerOf.l0 l (bindersL l) f t A K k ((i : Int) + 1) y) = some (outerFrom l f A t (roleP (nd l f)) (d + 1) i y) := by
      intro c hc
      have q := impl_has_l1 y (binderB l i) (by omega) K y.length K 0 c (by omega) (by omega)
      rw [show ((0 : Nat) : Int) = 0 from rfl] at q
      rw [q, Option.bind_some, outerFrom, ← hc]
      by_cases hb : (c || anyFrom y (binderB l i) y.length 0) = true
      · rw [hb, if_neg (by simp), if_pos rfl]
        exact ih k (i + 1) y (by omega) (by omega) (by omega)
      · rw [if_pos (by simpa using hb), if_neg hb, gd_pos (by omega)]
        exact ih k (i + 1) _ (by omega) (by omega) (by simp; omega)
    by_cases h1 : (binderB l i).Node < 0
    · rw [if_pos h1]
      exact fin true (by simp [skipB, h1])
    · rw [if_neg h1, impl_inB, Option.bind_some]
      by_cases h2 : inB (binderB l i).Node t A = true
      · rw [if_pos h2]
        refine fin true ?_
        unfold inB at h2
        simp only [Bool.and_eq_true, decide_eq_true_eq] at h2
        simp [skipB, h2]
      · rw [if_neg h2]
        unfold impl_given.f
        rw [at_nd l f hf, Option.bind_some]
        have h2' : (decide (t ≤ (binderB l i).Node) && decide ((binderB l i).Node ≤ A)) = false := by unfold inB at h2; simpa using h2
        by_cases h6 : (nd l f).Kind = 6
        · rw [if_pos h6, Option.bind_some]
          exact fin _ (by simp only [skipB, roleP, h2', if_pos h6]; simp [h1])
        · rw [if_neg h6, Option.bind_some]
          exact fin _ (by simp only [skipB, roleP, h2', if_neg h6]; simp [h1])
theorem spec_param (K : Nat) (n : Nd) : spec_l16Param.f K n = some (roleP n) := by
  unfold spec_l16Param.f roleP
  split <;> rfl
theorem spec_outer_l0 {l : List Nd} (h : nodesOkB l = true) (hsm : ∀ n ∈ l, small n) (f : Nat) (hf : f < l.length) (A : Nat) (hA : A < f) (hfa : (nd l f).A = A) (hp : parOf l A = f) (K : Nat) (hK : big ≤ K) (d : Nat) : ∀ (k i : Nat) (y : List Bi), i + d = A + 1 → rd (startsL l) (A : Int) ≤ i → d < k → y.length + d ≤ 150 →
    spec_OuterOf.l0 l f K k i y = some (outerFrom l f A (rd (startsL l) (A : Int)) (roleP (nd l f)) d i y) := by
  have hK' := hK
  unfold big at hK'
  have hlen := ok_len h
  induction d with
  | zero =>
    intro k i y hi h0 hk hy
    obtain ⟨k, rfl⟩ := succ_of (show 0 < k by omega)
    rw [spec_OuterOf.l0, at_nd l f hf, Option.bind_some, hfa, if_neg (by omega), outerFrom]
  | succ d ih =>
    intro k i y hi h0 hk hy
    obtain ⟨k, rfl⟩ := succ_of (show 0 < k by omega)
    have hst := st_le h A (by omega)
    rw [spec_OuterOf.l0, at_nd l f hf, Option.bind_some, hfa, if_pos (by omega)]
    simp only [jn]
    rw [at_nd l i (by omega), Option.bind_some, w64_of (x := (i : Int) + 1) (by omega) (by omega)]
    have fin : ∀ c : Bool, c = skipB f A (rd (startsL l) (A : Int)) (roleP (nd l f)) (binderB l i) → (if c = true then spec_OuterOf.l0 l f K k ((i : Int) + 1) y else (spec_OuterOf.l1 y (binderB l i) K K false 0).bind fun (v48 : Bool) => if (!v48) = true then gd ((y.length + 1) * 16 ≤ 140737488355328) (spec_OuterOf.l0 l f K k ((i : Int) + 1) (y ++ ([binderB l i] : List impl_Bind))) else spec_OuterOf.l0 l f K k ((i : Int) + 1) y) = some (outerFrom l f A (rd (startsL l) (A : Int)) (roleP (nd l f)) (d + 1) i y) := by
      intro c hc
      rw [outerFrom, ← hc]
      cases c with
      | true =>
        rw [if_pos rfl, if_pos (by simp)]
        exact ih _ (i + 1) y (by omega) (by omega) (by omega) (by omega)
      | false =>
        have q := spec_has_l1 y (binderB l i) (by omega) K y.length K 0 false (by omega) (by omega)
        rw [show ((0 : Nat) : Int) = 0 from rfl] at q
        rw [if_neg (by simp), q, Option.bind_some]
        by_cases hb : (false || anyFrom y (binderB l i) y.length 0) = true
        · rw [hb, if_neg (by simp), if_pos rfl]
          exact ih k (i + 1) y (by omega) (by omega) (by omega) (by omega)
        · rw [if_pos (by simpa using hb), if_neg hb, gd_pos (by omega)]
          exact ih k (i + 1) _ (by omega) (by omega) (by omega) (by simp; omega)
    have hbin := binder_in h A f (by omega) hp i h0 (by omega)
    by_cases hv : (nd l i).Kind = 1
    · rw [decide_eq_true hv, Bool.not_true, if_neg (by simp), spec_binder h hsm i (by omega) K hK, Option.bind_some]
      have hss := spec_start h hsm A (by omega) K hK
      generalize hb : binderB l i = b at fin hbin ⊢
      have hsk : skipB f A (rd (startsL l) (A : Int)) (roleP (nd l f)) b = (decide (b.Node < 0) || ((decide (b.Node < (f : Int)) && decide (rd (startsL l) (A : Int) ≤ b.Node)) || (decide (b.Node = f) && decide (b.Role = roleP (nd l f))))) := by
        unfold skipB
        congr 2
        rw [Bool.eq_iff_iff]
        simp only [Bool.and_eq_true, decide_eq_true_eq]
        omega
      rw [hsk] at fin
      rw [hss]
      simp only [spec_param, Option.bind_some]
      by_cases c1 : b.Node < (f : Int)
      · have c1' : ¬ b.Node = (f : Int) := by omega
        by_cases c2 : b.Node ≥ 0
        · have c2' : ¬ b.Node < 0 := by omega
          by_cases c3 : b.Node ≥ rd (startsL l) (A : Int)
          · rw [if_pos c1, if_pos c2, if_pos c3]
            exact fin true (by simp [c1, show rd (startsL l) (A : Int) ≤ b.Node from c3])
          · rw [if_pos c1, if_pos c2, if_neg c3, if_neg c2', if_neg c1']
            exact fin false (by simp [c1', c2', show ¬ rd (startsL l) (A : Int) ≤ b.Node from c3])
        · have c2' : b.Node < 0 := by omega
          rw [if_pos c1, if_neg c2, if_pos c2']
          exact fin true (by simp [c2'])
      · have c2' : ¬ b.Node < 0 := by omega
        rw [if_neg c1, if_neg c2']
        by_cases c4 : b.Node = (f : Int)
        · rw [if_pos c4]
          exact fin _ (by simp [c4, show ¬ (f : Int) < 0 by omega])
        · rw [if_neg c4]
          exact fin false (by simp [c1, c2', c4])
    · rw [decide_eq_false hv, Bool.not_false, if_pos rfl]
      have hbb : binderB l i = noB := by unfold binderB; rw [if_neg hv]
      have : outerFrom l f A (rd (startsL l) (A : Int)) (roleP (nd l f)) (d + 1) i y = outerFrom l f A (rd (startsL l) (A : Int)) (roleP (nd l f)) d (i + 1) y := by
        simp only [outerFrom]
        rw [hbb, if_pos (by simp [skipB, noB])]
      rw [this]
      exact ih k (i + 1) y (by omega) (by omega) (by omega) (by omega)
def outerOfL (l : List Nd) (f : Int) : List Bi := outerFrom l f (nd l f.toNat).A (rd (startsL l) (nd l f.toNat).A) (roleP (nd l f.toNat)) ((nd l f.toNat).A + 1 - rd (startsL l) (nd l f.toNat).A).toNat (rd (startsL l) (nd l f.toNat).A).toNat []
def outerB (l : List Nd) (f : Int) : List Bi := if nodesOkB l = true then (if inB f 0 ((l.length : Int) - 1) = true then (if funB (nd l f.toNat) = true then outerOfL l f else []) else []) else []
theorem impl_outer (l : List Nd) (a : Int) (hn : l.length ≤ 1048576) (hsm : ∀ n ∈ l, small n) (K : Nat) (hk : big ≤ K) : impl_OuterOf.f K l a = some (outerB l a) := by
  have hk' := hk
  unfold big at hk'
  unfold impl_OuterOf.f outerB
  simp only [jn]
  rw [impl_nodesOk l hn hsm K hk, Option.bind_some]
  by_cases h : nodesOkB l = true
  · have hlen := ok_len h
    rw [h, if_neg (by simp), if_pos rfl, w64_of (by omega) (by omega), impl_inB, Option.bind_some]
    by_cases hin : inB a 0 ((l.length : Int) - 1) = true
    · have hr : 0 ≤ a ∧ a ≤ (l.length : Int) - 1 := by unfold inB at hin; simpa using hin
      obtain ⟨f, rfl⟩ : ∃ f : Nat, a = (f : Int) := ⟨a.toNat, by omega⟩
      rw [hin, if_neg (by simp), if_pos rfl, impl_isFun' K l f (by omega), Int.toNat_natCast, Option.bind_some]
      by_cases hfun : funB (nd l f) = true
      · obtain ⟨A, s, hA, hAf, hs, hsA, hp⟩ := fun_node h f (by omega) hfun
        rw [hfun, if_neg (by simp), if_pos rfl, impl_bindersL h K (by omega), Option.bind_some]
        unfold impl_outerOf.f impl_bodyOf.f impl_startOf.f outerOfL
        simp only [jn]
        rw [at_nd l f (by omega), Option.bind_some, Int.toNat_natCast, hA, impl_start h K A (by omega) K (by omega), hs]
        simp only [Option.bind_some]
        have := impl_outer_l0 h f (by omega) A (by omega) s K (by omega) (A + 1 - s) K s [] (by omega) (by omega) (by simp; omega)
        rw [this, Option.bind_some, Option.bind_some, Int.toNat_natCast, show ((A : Int) + 1 - (s : Int)).toNat = A + 1 - s by omega]
      · rw [if_neg hfun, if_pos (by simpa using hfun)]
    · rw [if_neg hin, if_pos (by simpa using hin), if_pos trivial]
  · rw [if_neg h, if_pos (by simpa using h), if_pos trivial]
theorem spec_outer (l : List Nd) (a : Int) (hn : l.length ≤ 1048576) (hsm : ∀ n ∈ l, small n) (K : Nat) (hk : big ≤ K) : spec_OuterOf.f K l a = some (outerB l a) := by
  have hk' := hk
  unfold big at hk'
  unfold spec_OuterOf.f outerB
  simp only [jn]
  rw [spec_nodesOk l hn hsm K hk, Option.bind_some]
  by_cases h : nodesOkB l = true
  · have hlen := ok_len h
    rw [h, if_neg (by simp), if_pos rfl, w64_of (by omega) (by omega), spec_inB, Option.bind_some]
    by_cases hin : inB a 0 ((l.length : Int) - 1) = true
    · have hr : 0 ≤ a ∧ a ≤ (l.length : Int) - 1 := by unfold inB at hin; simpa using hin
      obtain ⟨f, rfl⟩ : ∃ f : Nat, a = (f : Int) := ⟨a.toNat, by omega⟩
      rw [hin, if_neg (by simp), if_pos rfl, at_nd l f (by omega), Option.bind_some, spec_lambda, Int.toNat_natCast, Option.bind_some]
      by_cases hfun : funB (nd l f) = true
      · obtain ⟨A, s, hA, hAf, hs, hsA, hp⟩ := fun_node h f (by omega) hfun
        rw [hfun, if_neg (by simp), if_pos rfl]
        unfold outerOfL
        rw [Int.toNat_natCast, Option.bind_some, hA, spec_start h hsm A (by omega) K hk, hs]
        simp only [Option.bind_some]
        have := spec_outer_l0 h hsm f (by omega) A hAf hA hp K hk (A + 1 - s) K s [] (by omega) (by omega) (by omega) (by simp; omega)
        rw [this, hs, Option.bind_some, Int.toNat_natCast, show ((A : Int) + 1 - (s : Int)).toNat = A + 1 - s by omega]
      · rw [if_neg hfun, if_pos (by simpa using hfun)]
    · rw [if_neg hin, if_pos (by simpa using hin), if_pos trivial]
  · rw [if_neg h, if_pos (by simpa using h), if_pos trivial]
end Go.Proofs.YtfkanjgfjejgiaaDoorE
