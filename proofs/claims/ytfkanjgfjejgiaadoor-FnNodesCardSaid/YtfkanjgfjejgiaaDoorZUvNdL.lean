/- The law FnNodes: each part of a program is one; it begins where it is said to, ends at its node, and prints as it does in its place. -/
import Derived.Test.YtfkanjgfjejgiaaDoorZUvPn
import Derived.Test.YtfkanjgfjejgiaaDoorZUvBent
set_option linter.unusedSimpArgs false
set_option linter.unusedVariables false
namespace Go.Proofs.YtfkanjgfjejgiaaDoorE
open Go.Ev Go.RowKit
set_option linter.unusedVariables false
set_option linter.unusedSimpArgs false
theorem parFrom_has (l : List Nd) (c : Int) (d : Nat) : ∀ i, 0 ≤ parFrom l c d i → ∃ q : Nat, parFrom l c d i = (q : Int) ∧ i ≤ q ∧ q < i + d ∧ hasKid (nd l q) c = true := by
  induction d with
  | zero => intro i h; simp [parFrom] at h
  | succ d ih =>
    intro i h
    rw [parFrom] at h ⊢
    split
    · rename_i hk; exact ⟨i, rfl, by omega, by omega, hk⟩
    · rename_i hk
      rw [if_neg hk] at h
      obtain ⟨q, e, h1, h2, h3⟩ := ih _ h
      exact ⟨q, e, by omega, by omega, h3⟩
theorem impl_ParentOf_ok {l : List Nd} (h : nodesOkB l = true) (hsm : ∀ n ∈ l, small n) (x : Nat) (hx : x < l.length) (K : Nat) (hk : big ≤ K) : impl_ParentOf.f K l x = some (parOf l x) := by
  have hk' := hk
  unfold big at hk'
  have hlen := ok_len h
  unfold impl_ParentOf.f
  simp only [jn]
  have hin : inB (x : Int) 0 ((l.length : Int) - 1) = true := by unfold inB; simp; omega
  rw [impl_nodesOk l (by omega) hsm K hk, Option.bind_some, h, if_neg (by simp), w64_of (by omega) (by omega), impl_inB, Option.bind_some, hin]
  simp only [Bool.not_true, Bool.false_eq_true, if_false]
  rw [impl_pars h K (by omega), Option.bind_some, at_pars l x hx, Option.bind_some]
theorem laws_has_l0 (ks : List Int) (c : Int) (hn : ks.length ≤ 3) (K : Nat) (e : Nat) : ∀ (k j : Nat), j + e = ks.length → e < k → laws_has.l0 ks c K k j = some (if hasFrom ks c e j = true then .inl true else .inr ()) := by
  induction e with
  | zero =>
    intro k j hj hk
    obtain ⟨k, rfl⟩ := succ_of (show 0 < k by omega)
    rw [laws_has.l0, if_neg (by omega)]; rfl
  | succ e ih =>
    intro k j hj hk
    obtain ⟨k, rfl⟩ := succ_of (show 0 < k by omega)
    rw [laws_has.l0, if_pos (by omega), at_rd _ _ (by omega) (by omega), Option.bind_some, hasFrom]
    by_cases hc : rd ks (j : Int) = c
    · rw [if_pos hc]; simp [hc]
    · rw [if_neg hc, w64_of (by omega) (by omega), show ((j : Int) + 1) = ((j + 1 : Nat) : Int) by omega, ih k (j + 1) (by omega) (by omega)]
      simp [hc]
theorem laws_has_ok (n : Nd) (c : Int) (K : Nat) (hk : 4 ≤ K) : laws_has.f K (kids n) c = some (hasKid n c) := by
  have := arity_le n.Kind
  unfold laws_has.f
  simp only [jn]
  rw [show (0 : Int) = ((0 : Nat) : Int) from rfl, laws_has_l0 (kids n) c (by rw [kids_len]; omega) K (arityN n.Kind) K 0 (by rw [kids_len]; omega) (by omega)]
  unfold hasKid
  cases hasFrom (kids n) c (arityN n.Kind) 0 <;> rfl
theorem same_l0 (l : List Nd) (hl : l.length ≤ 1000) (K : Nat) (e : Nat) : ∀ (k j : Nat), j + e = l.length → e < k → impl_SameNodes.l0 l l K k j = some (.inr ()) := by
  induction e with
  | zero =>
    intro k j hj hk
    obtain ⟨k, rfl⟩ := succ_of (show 0 < k by omega)
    rw [impl_SameNodes.l0, if_neg (by omega)]
  | succ e ih =>
    intro k j hj hk
    obtain ⟨k, rfl⟩ := succ_of (show 0 < k by omega)
    rw [impl_SameNodes.l0, if_pos (by omega), at_nd l j (by omega), Option.bind_some, Option.bind_some]
    simp only [decide_true, beq_self_eq_true, Bool.and_true, Bool.not_true, Bool.false_eq_true, if_false]
    rw [w64_of (by omega) (by omega), show ((j : Int) + 1) = ((j + 1 : Nat) : Int) by omega]
    exact ih k (j + 1) (by omega) (by omega)
theorem same_refl (l : List Nd) (hl : l.length ≤ 1000) (K : Nat) (hK : 2000 ≤ K) : impl_SameNodes.f K l l = some true := by
  unfold impl_SameNodes.f
  simp only [jn, decide_true, Bool.not_true, Bool.false_eq_true, if_false]
  rw [show (0 : Int) = ((0 : Nat) : Int) from rfl, same_l0 l hl K l.length K 0 (by omega) (by omega)]
  rfl
/-- The whole is the part of the last node. -/
theorem part_whole {l : List Nd} (h : nodesOkB l = true) : partL l 0 (l.length - 1) = l := by
  have hlen := ok_len h
  unfold partL
  rw [show l.length - 1 + 1 = l.length by omega, List.take_length, List.drop_zero]
  have : ∀ n : Nd, movN 0 n = n := fun n => by
    unfold movN
    simp
  have e : movN ((0 : Nat) : Int) = id := funext this
  rw [e, List.map_id]
theorem few_small {l : List Nd} (h : FewE 364 l) : ∀ n ∈ l, small n := fun n hn => ⟨by have := (h.2 n hn).1; omega, by have := (h.2 n hn).2; omega⟩
theorem law_l0_no {l : List Nd} (h : nodesOkB l = false) (hl : l.length ≤ 400) (hsm : ∀ n ∈ l, small n) (K : Nat) (hK : big ≤ K) (d : Nat) : ∀ (k i : Nat), i + d = l.length → d < k → laws_FnNodes.l0 l false K k i = some (.inr ()) := by
  induction d with
  | zero =>
    intro k i hi hk
    obtain ⟨k, rfl⟩ := succ_of (show 0 < k by omega)
    rw [laws_FnNodes.l0, if_neg (by omega)]
  | succ d ih =>
    intro k i hi hk
    obtain ⟨k, rfl⟩ := succ_of (show 0 < k by omega)
    rw [laws_FnNodes.l0, if_pos (by omega)]
    simp only [jn]
    rw [impl_Part_no h (by omega) hsm i K hK, Option.bind_some]
    simp only [Bool.not_false, if_true]
    rw [if_neg (by simp), impl_StartOf_no h (by omega) hsm i K hK, Option.bind_some]
    simp only [decide_true, Bool.not_true, Bool.false_eq_true, if_false]
    rw [w64_of (by omega) (by omega), show ((i : Int) + 1) = ((i + 1 : Nat) : Int) by omega]
    exact ih k (i + 1) (by omega) (by omega)
theorem law_l0_ok {l : List Nd} (h : nodesOkB l = true) (hS : ∀ n ∈ l, NdS n) (hsm : ∀ n ∈ l, small n) (K : Nat) (hK : big ≤ K) (d : Nat) : ∀ (k i : Nat), i + d = l.length → d < k → laws_FnNodes.l0 l true K k i = some (.inr ()) := by
  have hK' := hK
  unfold big at hK'
  have hlen := ok_len h
  induction d with
  | zero =>
    intro k i hi hk
    obtain ⟨k, rfl⟩ := succ_of (show 0 < k by omega)
    rw [laws_FnNodes.l0, if_neg (by omega)]
  | succ d ih =>
    intro k i hi hk
    obtain ⟨k, rfl⟩ := succ_of (show 0 < k by omega)
    have hil : i < l.length := by omega
    have hst := st_le h i hil
    obtain ⟨s, hs⟩ : ∃ s : Nat, rd (startsL l) (i : Int) = (s : Int) := ⟨(rd (startsL l) (i : Int)).toNat, by omega⟩
    have hsi : s ≤ i := by omega
    obtain ⟨hp, -⟩ := part_ok h i s hil hs
    have hpl := part_len l s i hil
    have hps := part_small hsm s i
    rw [laws_FnNodes.l0, if_pos (by omega)]
    simp only [jn]
    rw [impl_Part_ok h hsm i s hil hs K hK, Option.bind_some]
    simp only [Bool.not_true, Bool.false_eq_true, if_false]
    rw [spec_nodesOk _ (by omega) hps K hK, Option.bind_some, hp]
    simp only [Bool.not_true, Bool.false_eq_true, if_false]
    rw [impl_StartOf_ok h hsm i hil K hK, Option.bind_some, hs, w64_of (x := (i : Int) + 1) (by omega) (by omega), w64_of (x := (i : Int) + 1 - s) (by omega) (by omega), hpl]
    rw [show decide (((i + 1 - s : Nat) : Int) = (i : Int) + 1 - (s : Int)) = true by apply decide_eq_true; omega]
    simp only [Bool.not_true, Bool.false_eq_true, if_false]
    -- the texts
    obtain ⟨t, et, -⟩ := pn_tot h hS K (by omega) K i (by omega) hil
    have e1 : impl_PrintPart.f K l i = some t := by
      unfold impl_PrintPart.f
      rw [impl_StartOf_ok h hsm i hil K hK, Option.bind_some, hs, if_neg (by omega)]
      unfold impl_printNode.f
      rw [et, Option.bind_some]
    have e2 : impl_Print.f K (partL l s i) = some t := by
      unfold impl_Print.f
      rw [impl_nodesOk _ (by omega) hps K hK, Option.bind_some, hp]
      simp only [Bool.not_true, Bool.false_eq_true, if_false]
      rw [hpl, w64_of (by omega) (by omega)]
      unfold impl_printNode.f
      have := pn_shift h i s hil hs K K i (Nat.le_refl _) (by omega) hsi
      rw [show ((i + 1 - s : Nat) : Int) - 1 = (i : Int) - s by omega, ← this, et, Option.bind_some]
    rw [e1, Option.bind_some, e2, Option.bind_some]
    simp only [beq_self_eq_true, Bool.not_true, Bool.false_eq_true, if_false]
    rw [impl_ParentOf_ok h hsm i hil K hK, Option.bind_some]
    rw [w64_of (x := (l.length : Int) - 1) (by omega) (by omega)]
    have hroot := ok_root h
    have hnext : laws_FnNodes.l0 l true K k ((i : Int) + 1) = some (.inr ()) := by
      rw [show ((i : Int) + 1) = ((i + 1 : Nat) : Int) by omega]
      exact ih k (i + 1) (by omega) (by omega)
    by_cases hr : i = l.length - 1
    · have hneg : parOf l i < 0 := by
        rcases parOf_gt h (i : Int) with q | q
        · omega
        · have := parOf_lt l (i : Int); omega
      rw [show decide (parOf l (i : Int) < 0) = true from decide_eq_true hneg, show decide ((i : Int) = (l.length : Int) - 1) = true by apply decide_eq_true; omega]
      simp only [bne_self_eq_false, Bool.false_eq_true, if_false]
      rw [if_neg (by omega)]
      exact hnext
    · have hpar := par_in h (l.length - 1) (by omega) i (by rw [hroot]; omega) (by omega)
      rw [show decide (parOf l (i : Int) < 0) = false by apply decide_eq_false; omega, show decide ((i : Int) = (l.length : Int) - 1) = false by apply decide_eq_false; omega]
      simp only [bne_self_eq_false, Bool.false_eq_true, if_false]
      obtain ⟨q, hq, -, hq2, hkid⟩ := parFrom_has l (i : Int) l.length 0 (by show 0 ≤ parOf l (i : Int); omega)
      have hq3 : parOf l (i : Int) = (q : Int) := hq
      rw [if_pos (by omega), hq3, at_nd l q (by omega), Option.bind_some, impl_kids, Option.bind_some, laws_has_ok _ _ K (by omega), Option.bind_some, hkid]
      simp only [Bool.not_true, Bool.false_eq_true, if_false]
      exact hnext
theorem law_nodes (a : List Int) : ∃ K, laws_FnNodes.f K a = some true := by
  refine ⟨3000000, ?_⟩
  have hK : big ≤ 3000000 := by decide
  generalize hKe : (3000000 : Nat) = K at hK ⊢
  unfold laws_FnNodes.f laws_big.f
  rw [Option.bind_some]
  by_cases ha : (a.length : Int) > 1048576
  · rw [decide_eq_true ha, if_pos rfl]
  rw [decide_eq_false ha, if_neg (by simp)]
  have hd : Tot (spec_DrawNodesOk.f K a) fun r => FewE 364 r := by
    unfold spec_DrawNodesOk.f
    refine Tot.bind (t_new a (by omega) (by omega)) fun c hc => Tot.bind2 (t_bent (by omega) hc) fun l c2 h => Tot.ret h.2
  obtain ⟨l, e, hl⟩ := hd
  rw [e, Option.bind_some]
  have hsm := few_small hl
  have hl1 := hl.1
  rw [impl_nodesOk l (by omega) hsm K hK, Option.bind_some, spec_nodesOk l (by omega) hsm K hK, Option.bind_some]
  simp only [jn]
  rw [if_neg (by simp)]
  cases h : nodesOkB l with
  | false =>
    rw [show (0 : Int) = ((0 : Nat) : Int) from rfl, law_l0_no h (by omega) hsm K hK l.length K 0 (by omega) (by omega)]
    rfl
  | true =>
    have hlen := ok_len h
    rw [show (0 : Int) = ((0 : Nat) : Int) from rfl, law_l0_ok h hl.2 hsm K hK l.length K 0 (by omega) (by omega)]
    simp only [lb, Bool.not_true, Bool.false_eq_true, if_false]
    rw [w64_of (by omega) (by omega), show (l.length : Int) - 1 = ((l.length - 1 : Nat) : Int) by omega, impl_Part_ok h hsm (l.length - 1) 0 (by omega) (by rw [ok_root h]; rfl) K hK, Option.bind_some, part_whole h, same_refl l (by omega) K (by omega), Option.bind_some]
end Go.Proofs.YtfkanjgfjejgiaaDoorE
