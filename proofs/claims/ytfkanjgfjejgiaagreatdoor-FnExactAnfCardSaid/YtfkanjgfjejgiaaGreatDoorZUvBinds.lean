/- Parents, homes, binders: the program's tables and the reference's searches come to one function. -/
import Derived.Test.YtfkanjgfjejgiaaGreatDoorZUvPar
set_option linter.unusedSimpArgs false
set_option linter.unusedVariables false
namespace Go.Proofs.YtfkanjgfjejgiaaGreatDoorE
open Go.Ev
set_option linter.unusedVariables false
set_option linter.unusedSimpArgs false
theorem set_getD_eq {α : Type} (l : List α) (i : Nat) (x d : α) (h : i < l.length) : (l.set i x).getD i d = x := by simp [List.getD, h]
theorem set_getD_ne {α : Type} (l : List α) (i j : Nat) (x d : α) (h : i ≠ j) : (l.set i x).getD j d = l.getD j d := by simp [List.getD, List.getElem?_set_ne h]
theorem ext_getD {α : Type} (d : α) {l m : List α} (h : l.length = m.length) (e : ∀ i, i < l.length → l.getD i d = m.getD i d) : l = m := by
  refine List.ext_getElem h fun i h1 h2 => ?_
  have := e i h1
  simpa [List.getD, h1, h2] using this
/-! ### the reference's search -/
theorem spec_has_l0 (ks : List Int) (c : Int) (hn : ks.length ≤ 3) (K : Nat) (e : Nat) : ∀ (k j : Nat), j + e = ks.length → e < k → spec_l4Has.l0 ks c K k j = some (if hasFrom ks c e j = true then .inl true else .inr ()) := by
  induction e with
  | zero =>
    intro k j hj hk
    obtain ⟨k, rfl⟩ := succ_of hk
    rw [spec_l4Has.l0, if_neg (by omega)]
    rfl
  | succ e ih =>
    intro k j hj hk
    obtain ⟨k, rfl⟩ := succ_of hk
    rw [spec_l4Has.l0, if_pos (by omega), at_getD ks 0 j (by omega), Option.bind_some, hasFrom, rd_nat, w64_of (by omega) (by omega)]
    by_cases h : ks.getD j 0 = c
    · rw [if_pos h, if_pos h]; rfl
    · rw [if_neg h, if_neg h]
      exact ih k (j + 1) (by omega) (by omega)
theorem spec_has (n : Nd) (c : Int) (K : Nat) (hk : 4 ≤ K) : spec_l4Has.f K (kids n) c = some (hasKid n c) := by
  have h1 := kids_len n
  have h2 := arity_le n.Kind
  unfold spec_l4Has.f hasKid
  simp only [jn]
  have := spec_has_l0 (kids n) c (by omega) K (kids n).length K 0 (by omega) (by omega)
  rw [← h1]
  rw [show (0 : Int) = ((0 : Nat) : Int) from rfl, this]
  cases hasFrom (kids n) c (kids n).length 0 <;> rfl
theorem spec_par_l0 {l : List Nd} (hl : l.length ≤ 150) (c : Int) (K : Nat) (hK : 1000 ≤ K) (d : Nat) : ∀ (k i : Nat), i + d = l.length → d < k → spec_ParentOf.l0 l c K k i = some (if parFrom l c d i ≥ 0 then .inl (parFrom l c d i) else .inr ()) := by
  induction d with
  | zero =>
    intro k i hi hk
    obtain ⟨k, rfl⟩ := succ_of (show 0 < k by omega)
    rw [spec_ParentOf.l0, if_neg (by omega)]
    rfl
  | succ d ih =>
    intro k i hi hk
    obtain ⟨k, rfl⟩ := succ_of (show 0 < k by omega)
    rw [spec_ParentOf.l0, if_pos (by omega), at_nd l i (by omega), Option.bind_some, spec_kids, Option.bind_some, spec_has _ _ K (by omega), Option.bind_some, w64_of (by omega) (by omega), parFrom]
    by_cases h : hasKid (nd l i) c = true
    · rw [if_pos h, if_pos h, if_pos (by omega)]
    · rw [if_neg h, if_neg h]
      exact ih k (i + 1) (by omega) (by omega)
theorem parOf_ge (l : List Nd) (c : Int) : -1 ≤ parOf l c := by
  have : ∀ d i, -1 ≤ parFrom l c d i := by
    intro d
    induction d with
    | zero => intro i; simp [parFrom]
    | succ d ih =>
      intro i
      simp only [parFrom]
      split
      · omega
      · exact ih (i + 1)
  exact this l.length 0
theorem spec_par {l : List Nd} (h : nodesOkB l = true) (hsm : ∀ n ∈ l, small n) (c : Int) (K : Nat) (hk : big ≤ K) : spec_ParentOf.f K l c = some (parOf l c) := by
  have hk' := hk
  unfold big at hk'
  have hlen := ok_len h
  unfold spec_ParentOf.f
  simp only [jn]
  rw [spec_nodesOk l (by omega) hsm K hk, Option.bind_some, h, if_neg (by simp)]
  have := spec_par_l0 hlen.2 c K (by omega) l.length K 0 (by omega) (by omega)
  rw [show (0 : Int) = ((0 : Nat) : Int) from rfl, this]
  have g := parOf_ge l c
  show lb (some (if parOf l c ≥ 0 then _ else _)) _ _ = _
  by_cases q : parOf l c ≥ 0
  · rw [if_pos q]; rfl
  · rw [if_neg q, show parOf l c = -1 by omega]; rfl
/-! ### the program's table -/
def pars (l : List Nd) : List Int := (List.range l.length).map fun c : Nat => parOf l (c : Int)
theorem pars_len (l : List Nd) : (pars l).length = l.length := by simp [pars]
theorem pars_at (l : List Nd) (c : Nat) (hc : c < l.length) : (pars l).getD c 0 = parOf l c := by simp [pars, List.getD, hc]
theorem at_pars (l : List Nd) (c : Nat) (hc : c < l.length) : at_ (pars l) (c : Int) = some (parOf l c) := by rw [at_getD (pars l) 0 c (by rw [pars_len]; exact hc), pars_at l c hc]
theorem impl_par_l0 {l : List Nd} (hl : l.length ≤ 150) (K : Nat) (d : Nat) : ∀ (k i : Nat) (p : List Int), i + d = l.length → d < k → p.length = l.length → (∀ c, c < i → p.getD c 0 = -1) → ∃ p', impl_parents.l0 l K k i p = some p' ∧ p'.length = l.length ∧ ∀ c, c < l.length → p'.getD c 0 = -1 := by
  induction d with
  | zero =>
    intro k i p hi hk hp hc
    obtain ⟨k, rfl⟩ := succ_of (show 0 < k by omega)
    rw [impl_parents.l0, if_neg (by simp only [List.length_replicate, Int.toNat_natCast]; omega)]
    exact ⟨p, rfl, hp, fun c h => hc c (by omega)⟩
  | succ d ih =>
    intro k i p hi hk hp hc
    obtain ⟨k, rfl⟩ := succ_of (show 0 < k by omega)
    rw [impl_parents.l0, if_pos (by simp only [List.length_replicate, Int.toNat_natCast]; omega), at_getD p 0 i (by omega), Option.bind_some, w64_of (by omega) (by omega), Int.toNat_natCast]
    refine ih k (i + 1) (p.set i (-1)) (by omega) (by omega) (by simpa using hp) fun c hc' => ?_
    by_cases hci : c = i
    · subst hci; rw [set_getD_eq _ _ _ _ (by omega)]
    · rw [set_getD_ne _ _ _ _ _ (by omega)]; exact hc c (by omega)
theorem impl_par_l2 {l : List Nd} (h : nodesOkB l = true) (i : Nat) (hi : i < l.length) (K : Nat) (e : Nat) : ∀ (k j : Nat) (p : List Int), j + e = arityN (nd l i).Kind → e < k → p.length = l.length →
    ∃ p' : List Int, impl_parents.l2 i (kids (nd l i)) K k j p = some p' ∧ p'.length = l.length ∧ (∀ c : Nat, c < l.length → p'.getD c 0 = if hasFrom (kids (nd l i)) c e j = true then (i : Int) else p.getD c 0) := by
  have hlen := ok_len h
  have ha := arity_le (nd l i).Kind
  have hk' := kids_len (nd l i)
  induction e with
  | zero =>
    intro k j p hj hk hp
    obtain ⟨k, rfl⟩ := succ_of hk
    rw [impl_parents.l2, if_neg (by omega)]
    exact ⟨p, rfl, hp, fun c _ => by simp [hasFrom]⟩
  | succ e ih =>
    intro k j p hj hk hp
    obtain ⟨k, rfl⟩ := succ_of hk
    have hb := ok_kids h i hi j (by omega)
    obtain ⟨q, hq⟩ : ∃ q : Nat, rd (kids (nd l i)) (j : Int) = (q : Int) := ⟨(rd (kids (nd l i)) (j : Int)).toNat, by omega⟩
    obtain ⟨p', h1, h2, h3⟩ := ih k (j + 1) (p.set q i) (by omega) (by omega) (by simpa using hp)
    refine ⟨p', ?_, h2, fun c hc => ?_⟩
    · rw [impl_parents.l2, if_pos (by omega), at_rd _ (j : Int) (by omega) (by omega), Option.bind_some, hq, at_getD p 0 q (by omega), Option.bind_some, w64_of (by omega) (by omega), Int.toNat_natCast]
      exact h1
    · have hs : hasFrom (kids (nd l i)) c (e + 1) j = (decide (rd (kids (nd l i)) (j : Int) = c) || hasFrom (kids (nd l i)) c e (j + 1)) := by
        simp only [hasFrom]
        by_cases hx : rd (kids (nd l i)) (j : Int) = c
        · rw [if_pos hx, decide_eq_true hx, Bool.true_or]
        · rw [if_neg hx, decide_eq_false hx, Bool.false_or]
      rw [h3 c hc, hs, hq]
      by_cases hcq : q = c
      · subst hcq
        rw [set_getD_eq _ _ _ _ (by omega)]
        simp
      · rw [set_getD_ne _ _ _ _ _ hcq, decide_eq_false (by omega), Bool.false_or]
theorem impl_par_l1 {l : List Nd} (h : nodesOkB l = true) (K : Nat) (hK : 1000 ≤ K) (d : Nat) : ∀ (k i : Nat) (p : List Int), i + d = l.length → d < k → p.length = l.length → (∀ c : Nat, c < l.length → p.getD c 0 = lastPar l c i) → impl_parents.l1 l K k i p = some (pars l) := by
  have hlen := ok_len h
  induction d with
  | zero =>
    intro k i p hi hk hp hc
    obtain ⟨k, rfl⟩ := succ_of (show 0 < k by omega)
    rw [impl_parents.l1, if_neg (by omega)]
    refine congrArg some (ext_getD 0 (by rw [pars_len, hp]) fun c hc' => ?_)
    rw [pars_at l c (by omega), hc c (by omega)]
    exact last_par h c i (by omega) fun x h1 h2 => by omega
  | succ d ih =>
    intro k i p hi hk hp hc
    obtain ⟨k, rfl⟩ := succ_of (show 0 < k by omega)
    obtain ⟨p', h1, h2, h3⟩ := impl_par_l2 h i (by omega) K (arityN (nd l i).Kind) K 0 p (by omega) (by have := arity_le (nd l i).Kind; omega) hp
    rw [impl_parents.l1, if_pos (by omega)]
    simp only [jn]
    rw [at_nd l i (by omega), Option.bind_some, impl_kids, Option.bind_some]
    rw [show (0 : Int) = ((0 : Nat) : Int) from rfl, h1, Option.bind_some, w64_of (by omega) (by omega)]
    refine ih k (i + 1) p' (by omega) (by omega) h2 fun c hc' => ?_
    rw [h3 c hc', hc c hc']
    rfl
theorem impl_pars {l : List Nd} (h : nodesOkB l = true) (K : Nat) (hk : 2000 ≤ K) : impl_parents.f K l = some (pars l) := by
  have hlen := ok_len h
  unfold impl_parents.f
  simp only [jn]
  obtain ⟨p', h1, h2, h3⟩ := impl_par_l0 hlen.2 K l.length K 0 (List.replicate l.length 0) (by omega) (by omega) (by simp) (fun c h => by omega)
  rw [gd_pos (by omega), Int.toNat_natCast, show (0 : Int) = ((0 : Nat) : Int) from rfl, show (List.replicate l.length ((0 : Nat) : Int)) = List.replicate l.length (0 : Int) from rfl, h1, Option.bind_some,
    impl_par_l1 h K (by omega) l.length K 0 p' (by omega) (by omega) h2 (fun c hc => by rw [h3 c hc]; rfl)]
  rfl
/-! ### homes -/
def bindN (n : Nd) (x : Int) : List ByteArray × List Int :=
  if n.Kind = 3 then ([n.Name], [0]) else if n.Kind = 5 ∨ n.Kind = 19 then (if x = n.B then ([n.Name], [0]) else ([], []))
  else if n.Kind = 6 then (if x = n.A then ([n.Other, n.Name], [1, 0]) else ([n.Name], [0])) else if n.Kind = 14 then (if x = n.C then ([n.Other, n.Name], [1, 0]) else ([], [])) else ([], [])
theorem bind_len (n : Nd) (x : Int) : (bindN n x).2.length = (bindN n x).1.length ∧ (bindN n x).1.length ≤ 2 := by
  unfold bindN
  repeat' split
  all_goals simp
theorem spec_bound (K : Nat) (n : Nd) (x : Int) : spec_l6Bound.f K n x = some (bindN n x) := by
  unfold spec_l6Bound.f bindN
  simp only [jn]
  by_cases h3 : n.Kind = 3
  · simp [h3]
  by_cases h5 : n.Kind = 5
  · by_cases hx : x = n.B <;> simp [h5, hx]
  by_cases h19 : n.Kind = 19
  · by_cases hx : x = n.B <;> simp [h19, hx]
  by_cases h6 : n.Kind = 6
  · by_cases hx : x = n.A <;> simp [h6, hx]
  by_cases h14 : n.Kind = 14
  · by_cases hx : x = n.C <;> simp [h14, hx]
  simp [h3, h5, h19, h6, h14]
theorem impl_bound (K : Nat) (n : Nd) (x : Int) : impl_bindsIn.f K n x = some (bindN n x) := by
  unfold impl_bindsIn.f bindN
  simp only [jn]
  by_cases h3 : n.Kind = 3
  · simp [h3]
  by_cases h5 : n.Kind = 5
  · by_cases hx : x = n.B <;> simp [h5, hx]
  by_cases h19 : n.Kind = 19
  · by_cases hx : x = n.B <;> simp [h19, hx]
  by_cases h6 : n.Kind = 6
  · by_cases hx : x = n.A <;> simp [h6, hx]
  by_cases h14 : n.Kind = 14
  · by_cases hx : x = n.C <;> simp [h14, hx]
  simp [h3, h5, h19, h6, h14]
/-- The role of a name among names. -/
def roleFrom (ns : List ByteArray) (rs : List Int) (s : ByteArray) : Nat → Nat → Option Int
  | 0, _ => none
  | e + 1, j => if (ns.getD j ⟨#[]⟩).toList = s.toList then some (rd rs (j : Int)) else roleFrom ns rs s e (j + 1)
def roleB (n : Nd) (x : Int) (s : ByteArray) : Option Int := roleFrom (bindN n x).1 (bindN n x).2 s (bindN n x).1.length 0
abbrev Bi := impl_Bind
def noB : Bi := ⟨-1, -1⟩
def binderUp (l : List Nd) (s : ByteArray) : Nat → Int → Int → Bi
  | 0, _, _ => noB
  | d + 1, x, p => if p ≥ 0 then (match roleB (nd l p.toNat) x s with | some r => ⟨p, r⟩ | none => binderUp l s d p (parOf l p)) else noB
theorem binderUp_stop (l : List Nd) (s : ByteArray) (d : Nat) (x p : Int) (h : p < 0) : binderUp l s d x p = noB := by
  cases d with
  | zero => rfl
  | succ d => simp only [binderUp]; rw [if_neg (by omega)]
theorem spec_role (l : List Nd) (i : Nat) (hi : i < l.length) (q x : Int) (n : Nd) (K : Nat) (e : Nat) : ∀ (k j : Nat), j + e = (bindN n x).1.length → e < k →
    spec_BinderOf.l1 l i q (bindN n x).1 (bindN n x).2 K k j = some (match roleFrom (bindN n x).1 (bindN n x).2 (nd l i).Name e j with | some r => .inl ⟨q, r⟩ | none => .inr ()) := by
  have hb := bind_len n x
  induction e with
  | zero =>
    intro k j hj hk
    obtain ⟨k, rfl⟩ := succ_of hk
    rw [spec_BinderOf.l1, if_neg (by omega)]
    rfl
  | succ e ih =>
    intro k j hj hk
    obtain ⟨k, rfl⟩ := succ_of hk
    rw [spec_BinderOf.l1, if_pos (by omega), at_getD _ ⟨#[]⟩ j (by omega), Option.bind_some, at_nd l i hi, Option.bind_some, at_getD _ 0 j (by omega), Option.bind_some, roleFrom, rd_nat, w64_of (by omega) (by omega)]
    by_cases h : ((bindN n x).1.getD j ⟨#[]⟩).toList = (nd l i).Name.toList
    · rw [if_pos (by rw [h]; simp), if_pos h]
    · rw [if_neg (by simpa using h), if_neg h]
      exact ih k (j + 1) (by omega) (by omega)
def endB (r : Bi) : Option (Bi ⊕ Unit) := some (if r.Node ≥ 0 then .inl r else .inr ())
theorem spec_up {l : List Nd} (h : nodesOkB l = true) (hsm : ∀ n ∈ l, small n) (i : Nat) (hi : i < l.length) (K : Nat) (hK : big ≤ K) (d : Nat) : ∀ (k : Nat) (x p : Int), d < k → p < l.length → l.length ≤ p + d ∨ p < 0 → 0 < d → spec_BinderOf.l0 l i K k x p = endB (binderUp l (nd l i).Name d x p) := by
  have hK' := hK
  unfold big at hK'
  induction d with
  | zero => intro k x p hk hp hd h0; omega
  | succ d ih =>
    intro k x p hk hp hd h0
    obtain ⟨k, rfl⟩ := succ_of (show 0 < k by omega)
    rw [spec_BinderOf.l0]
    simp only [binderUp, jn]
    by_cases hp0 : p ≥ 0
    · obtain ⟨q, rfl⟩ : ∃ q : Nat, p = (q : Int) := ⟨p.toNat, by omega⟩
      have hq := parOf_gt h q
      have hq' := parOf_lt l q
      have hb := bind_len (nd l q) x
      rw [if_pos hp0, if_pos hp0, at_nd l q (by omega), Option.bind_some, spec_bound, Option.bind_some, Int.toNat_natCast]
      rw [show (0 : Int) = ((0 : Nat) : Int) from rfl, spec_role l i hi q x (nd l q) K (bindN (nd l q) x).1.length K 0 (by omega) (by omega)]
      unfold roleB
      cases hro : roleFrom (bindN (nd l q) x).1 (bindN (nd l q) x).2 (nd l i).Name (bindN (nd l q) x).1.length 0 with
      | some r =>
        show _ = some (if (q : Int) ≥ 0 then _ else _)
        rw [if_pos (by omega)]; rfl
      | none =>
        show (spec_ParentOf.f K l q).bind _ = _
        rw [spec_par h hsm q K hK, Option.bind_some]
        by_cases hd0 : d = 0
        · subst hd0
          have e : parOf l q = -1 := by omega
          rw [e, binderUp_stop _ _ _ _ _ (by omega)]
          obtain ⟨k2, rfl⟩ := succ_of (show 0 < k by omega)
          rw [spec_BinderOf.l0, if_neg (by omega)]
          rfl
        · exact ih k q (parOf l q) (by omega) hq' (by omega) (by omega)
    · rw [if_neg hp0, if_neg hp0]
      rfl
theorem up_end (l : List Nd) (s : ByteArray) (d : Nat) : ∀ x p, binderUp l s d x p = noB ∨ 0 ≤ (binderUp l s d x p).Node := by
  induction d with
  | zero => intro x p; exact .inl rfl
  | succ d ih =>
    intro x p
    simp only [binderUp]
    split
    · split
      · right; assumption
      · exact ih _ _
    · exact .inl rfl
theorem end_lb (r : Bi) (h : r = noB ∨ 0 ≤ r.Node) : lb (endB r) (fun r => some r) (fun (_ : Unit) => some noB) = some r := by
  unfold endB
  by_cases q : r.Node ≥ 0
  · rw [if_pos q]; rfl
  · rw [if_neg q]
    rcases h with rfl | h
    · rfl
    · omega
def binderB (l : List Nd) (i : Nat) : Bi := if (nd l i).Kind = 1 then binderUp l (nd l i).Name (l.length + 1) i (parOf l i) else noB
theorem spec_binder {l : List Nd} (h : nodesOkB l = true) (hsm : ∀ n ∈ l, small n) (i : Nat) (hi : i < l.length) (K : Nat) (hk : big ≤ K) : spec_BinderOf.f K l i = some (binderB l i) := by
  have hk' := hk
  unfold big at hk'
  have hlen := ok_len h
  unfold spec_BinderOf.f binderB
  simp only [jn]
  have hin : inB (i : Int) 0 ((l.length : Int) - 1) = true := by unfold inB; simp; omega
  rw [spec_nodesOk l (by omega) hsm K hk, Option.bind_some, h, if_neg (by simp), w64_of (by omega) (by omega), spec_inB, Option.bind_some, hin, if_neg (by simp), at_nd l i hi, Option.bind_some]
  by_cases h1 : (nd l i).Kind = 1
  · rw [if_pos h1, decide_eq_true h1, if_neg (by simp), spec_par h hsm _ K hk, Option.bind_some]
    have hg := parOf_gt h i
    have := spec_up h hsm i hi K hk (l.length + 1) K i (parOf l i) (by omega) (parOf_lt l i) (by omega) (by omega)
    rw [this]
    exact end_lb _ (up_end _ _ _ _ _)
  · rw [if_neg h1, decide_eq_false h1]
    rfl

/-! ### the program's -/
theorem impl_role {l : List Nd} (h : nodesOkB l = true) (c : Nat) (hc : c < l.length) (n : Nd) (x : Int) (s : ByteArray) (K : Nat) (e : Nat) : ∀ (k j : Nat), j + e = (bindN n x).1.length → e < k →
    impl_binderOf.l1 (pars l) s c (bindN n x).1 (bindN n x).2 K k j = some (match roleFrom (bindN n x).1 (bindN n x).2 s e j with | some r => .inl ⟨parOf l c, r⟩ | none => .inr ()) := by
  have hb := bind_len n x
  induction e with
  | zero =>
    intro k j hj hk
    obtain ⟨k, rfl⟩ := succ_of hk
    rw [impl_binderOf.l1, if_neg (by omega)]
    rfl
  | succ e ih =>
    intro k j hj hk
    obtain ⟨k, rfl⟩ := succ_of hk
    rw [impl_binderOf.l1, if_pos (by omega), at_getD _ ⟨#[]⟩ j (by omega), Option.bind_some, at_pars l c hc, Option.bind_some, at_getD _ 0 j (by omega), Option.bind_some, roleFrom, rd_nat, w64_of (by omega) (by omega)]
    by_cases hh : ((bindN n x).1.getD j ⟨#[]⟩).toList = s.toList
    · rw [if_pos (by rw [hh]; simp), if_pos hh]
    · rw [if_neg (by simpa using hh), if_neg hh]
      exact ih k (j + 1) (by omega) (by omega)
theorem impl_up {l : List Nd} (h : nodesOkB l = true) (s : ByteArray) (K : Nat) (hK : 1000 ≤ K) (d : Nat) : ∀ (k : Nat) (x : Nat), d < k → x < l.length → l.length ≤ parOf l x + d ∨ parOf l x < 0 → 0 < d → impl_binderOf.l0 l (pars l) s K k x = endB (binderUp l s d x (parOf l x)) := by
  induction d with
  | zero => intro k x hk hx hd h0; omega
  | succ d ih =>
    intro k x hk hx hd h0
    obtain ⟨k, rfl⟩ := succ_of (show 0 < k by omega)
    rw [impl_binderOf.l0, at_pars l x hx, Option.bind_some]
    simp only [binderUp, jn]
    have hp' := parOf_lt l x
    by_cases hp0 : parOf l x ≥ 0
    · obtain ⟨q, hq⟩ : ∃ q : Nat, parOf l x = (q : Int) := ⟨(parOf l x).toNat, by omega⟩
      have hr := fun n s => impl_role h x hx n x s K (bindN n x).1.length K 0 (by omega) (by have := bind_len n x; omega)
      rw [hq] at hp' hd hr ⊢
      have q0 : (q : Int) ≥ 0 := by omega
      simp only [q0, if_true, at_nd l q (by omega), Option.bind_some, impl_bound, Int.toNat_natCast]
      have hg := parOf_gt h q
      have hg' := parOf_lt l q
      rw [show (0 : Int) = ((0 : Nat) : Int) from rfl, hr (nd l q) s]
      unfold roleB
      cases hro : roleFrom (bindN (nd l q) x).1 (bindN (nd l q) x).2 s (bindN (nd l q) x).1.length 0 with
      | some r =>
        show _ = some (if (q : Int) ≥ 0 then _ else _)
        rw [if_pos (by omega)]; rfl
      | none =>
        show impl_binderOf.l0 l (pars l) s K k q = _
        by_cases hd0 : d = 0
        · subst hd0
          have e : parOf l q = -1 := by omega
          rw [e, binderUp_stop _ _ _ _ _ (by omega)]
          obtain ⟨k2, rfl⟩ := succ_of (show 0 < k by omega)
          rw [impl_binderOf.l0, at_pars l q (by omega), Option.bind_some, e, if_neg (by omega)]
          rfl
        · exact ih k q (by omega) (by omega) (by omega) (by omega)
    · rw [if_neg hp0, if_neg hp0]
      rfl
def bindersFrom (l : List Nd) : Nat → Nat → List Bi
  | 0, _ => []
  | d + 1, i => binderB l i :: bindersFrom l d (i + 1)
def bindersL (l : List Nd) : List Bi := bindersFrom l l.length 0
theorem bindersFrom_len (l : List Nd) (d : Nat) : ∀ i, (bindersFrom l d i).length = d := by
  induction d with
  | zero => intro i; rfl
  | succ d ih => intro i; simp [bindersFrom, ih]
theorem bindersFrom_at (l : List Nd) (d : Nat) : ∀ i j, j < d → (bindersFrom l d i).getD j noB = binderB l (i + j) := by
  induction d with
  | zero => intro i j hj; omega
  | succ d ih =>
    intro i j hj
    cases j with
    | zero => simp [bindersFrom]
    | succ j =>
      have := ih (i + 1) j (by omega)
      simp only [bindersFrom, List.getD_cons_succ]
      rw [this, show i + 1 + j = i + (j + 1) by omega]
theorem bindersL_len (l : List Nd) : (bindersL l).length = l.length := bindersFrom_len l _ _
theorem at_binders (l : List Nd) (j : Nat) (hj : j < l.length) : at_ (bindersL l) (j : Int) = some (binderB l j) := by
  have := bindersFrom_at l l.length 0 j hj
  rw [Nat.zero_add] at this
  rw [at_getD _ noB j (by rw [bindersL_len]; exact hj)]
  exact congrArg some this
theorem impl_binders_l0 {l : List Nd} (h : nodesOkB l = true) (K : Nat) (hK : 1000 ≤ K) (d : Nat) : ∀ (k i : Nat) (y : List Bi), i + d = l.length → d < k → y.length + d ≤ 4000000 → impl_binders.l0 l (pars l) K k i y = some (y ++ bindersFrom l d i) := by
  have hlen := ok_len h
  induction d with
  | zero =>
    intro k i y hi hk hy
    obtain ⟨k, rfl⟩ := succ_of (show 0 < k by omega)
    rw [impl_binders.l0, if_neg (by omega), bindersFrom, List.append_nil]
  | succ d ih =>
    intro k i y hi hk hy
    obtain ⟨k, rfl⟩ := succ_of (show 0 < k by omega)
    rw [impl_binders.l0, if_pos (by omega), at_nd l i (by omega), Option.bind_some, w64_of (by omega) (by omega)]
    simp only [jn]
    have go : ∀ b : Bi, b = binderB l i → gd ((y.length + 1) * 16 ≤ 140737488355328) (impl_binders.l0 l (pars l) K k ((i : Int) + 1) (y ++ [b])) = some (y ++ bindersFrom l (d + 1) i) := by
      intro b hb
      rw [gd_pos (by omega)]
      have := ih k (i + 1) (y ++ [b]) (by omega) (by omega) (by simp; omega)
      rw [List.append_assoc] at this
      rw [bindersFrom, ← hb]
      exact this
    by_cases h1 : (nd l i).Kind = 1
    · have hg := parOf_gt h i
      rw [if_pos h1]
      unfold impl_binderOf.f
      simp only [jn]
      rw [impl_up h (nd l i).Name K hK (l.length + 1) K i (by omega) (by omega) (by omega) (by omega)]
      have := end_lb _ (up_end l (nd l i).Name (l.length + 1) i (parOf l i))
      unfold noB at this
      rw [this, Option.bind_some]
      exact go _ (by unfold binderB; rw [if_pos h1])
    · rw [if_neg h1]
      exact go _ (by unfold binderB; rw [if_neg h1]; rfl)
theorem impl_bindersL {l : List Nd} (h : nodesOkB l = true) (K : Nat) (hk : 3000 ≤ K) : impl_binders.f K l = some (bindersL l) := by
  have hlen := ok_len h
  unfold impl_binders.f bindersL
  simp only [jn]
  rw [impl_pars h K (by omega), Option.bind_some]
  have := impl_binders_l0 h K (by omega) l.length K 0 [] (by omega) (by omega) (by simp; omega)
  rw [show (0 : Int) = ((0 : Nat) : Int) from rfl, this]
  rfl
end Go.Proofs.YtfkanjgfjejgiaaGreatDoorE
