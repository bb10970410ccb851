/- Fold and FoldsOf, the program's and the reference's, return the same. -/
import Derived.Test.YtfmlamheflbgdaaDoorZUvGood
set_option linter.unusedSimpArgs false
set_option linter.unusedVariables false
namespace Go.Proofs.YtfmlamheflbgdaaDoorE
open Go.Ev
set_option linter.unusedVariables false
theorem litN_sh (v : Int) : Sh ⟨litN v, []⟩ [litN v] := .inl ⟨rfl, ar2⟩
theorem make_sh (n : Nd) (gs : List Kd) (ha : arityN n.Kind = gs.length) (hp : ∀ g ∈ gs, Sh g.t' g.p) : Sh ⟨n, gs.map Kd.t'⟩ (make n (gs.map Kd.p)) := by
  cases gs with
  | nil => exact .inl ⟨rfl, by simpa using ha⟩
  | cons g gs =>
    refine .inr ⟨?_, by rw [ha]; simp⟩
    rw [make_len, List.map_cons, lens]
    obtain ⟨y, r, e, _⟩ := (hp g (by simp)).head
    rw [e]
    simp only [List.length_cons]
    omega
theorem end_ok {l : List Nd} {N : Nat} {gs : List Kd} (h : ∀ g ∈ gs, KOk l N g) (n : Nd) (ha : arityN n.Kind = gs.length) (hl : lens (gs.map Kd.p) < 900) :
    Sh (endT n gs) (endP n gs) ∧ shiftL 0 (endP n gs) = endP n gs ∧ (endP n gs).length ≤ lens (gs.map Kd.p) + 1 ∧
    ∀ K d, N + 1000 ≤ K → N + 1 ≤ d → ∀ out : List Nd, out.length + (endP n gs).length ≤ 1000 → impl_flat.r K d out (endT n gs) = some (out ++ shiftL out.length (endP n gs)) := by
  have al := arity_le n.Kind
  have mk : Sh ⟨n, gs.map Kd.t'⟩ (make n (gs.map Kd.p)) ∧ shiftL 0 (make n (gs.map Kd.p)) = make n (gs.map Kd.p) ∧ (make n (gs.map Kd.p)).length ≤ lens (gs.map Kd.p) + 1 ∧
      ∀ K d, N + 1000 ≤ K → N + 1 ≤ d → ∀ out : List Nd, out.length + (make n (gs.map Kd.p)).length ≤ 1000 → impl_flat.r K d out ⟨n, gs.map Kd.t'⟩ = some (out ++ shiftL out.length (make n (gs.map Kd.p))) :=
    ⟨make_sh n gs ha fun g hg => (h g hg).sh, make_fix n _ (by simpa using ha) (by simp; omega), by rw [make_len]; exact Nat.le_refl _, fun K d hK hd out ho => by
      rw [make_len] at ho
      exact flat_node h n ha hK hd (by omega)⟩
  have kd : ∀ g ∈ gs, g.p.length ≤ lens (gs.map Kd.p) + 1 → Sh g.t' g.p ∧ shiftL 0 g.p = g.p ∧ g.p.length ≤ lens (gs.map Kd.p) + 1 ∧
      ∀ K d, N + 1000 ≤ K → N + 1 ≤ d → ∀ out : List Nd, out.length + g.p.length ≤ 1000 → impl_flat.r K d out g.t' = some (out ++ shiftL out.length g.p) :=
    fun g hg hq => ⟨(h g hg).sh, (h g hg).fix, hq, fun K d hK hd => (h g hg).flat K d (by omega) (by omega)⟩
  rcases len3 (gs := gs) (by omega) with rfl | ⟨a, rfl⟩ | ⟨a, b, rfl⟩ | ⟨a, b, c, rfl⟩
  · exact mk
  · exact mk
  · simp only [endT, endP]
    by_cases q : n.Kind = 8 ∧ a.t'.n.Kind = 2 ∧ b.t'.n.Kind = 2
    · rw [if_pos q, if_pos q]
      have e : make (litN (primV n.N a.t'.n.N b.t'.n.N)) [] = [litN (primV n.N a.t'.n.N b.t'.n.N)] := rfl
      refine ⟨litN_sh _, ?_, by simp, fun K d hK hd out ho => ?_⟩
      · have := make_fix (litN (primV n.N a.t'.n.N b.t'.n.N)) [] ar2 (by simp)
        rw [e] at this; exact this
      · have := @flat_node l N [] (fun g hg => by cases hg) (litN (primV n.N a.t'.n.N b.t'.n.N)) ar2 K d hK hd out (by simp at ho; simp [lens]; omega)
        simp only [List.map_nil, e] at this
        exact this
    · rw [if_neg q, if_neg q]; exact mk
  · simp only [endT, endP]
    by_cases q : n.Kind = 7 ∧ a.t'.n.Kind = 2
    · rw [if_pos q, if_pos q]
      by_cases q2 : a.t'.n.N = 0
      · rw [if_pos q2, if_pos q2]; exact kd c (by simp) (by simp [lens]; omega)
      · rw [if_neg q2, if_neg q2]; exact kd b (by simp) (by simp [lens]; omega)
    · rw [if_neg q, if_neg q]
      by_cases q2 : n.Kind = 14 ∧ a.t'.n.Kind = 12
      · rw [if_pos q2, if_pos q2]; exact kd b (by simp) (by simp [lens]; omega)
      · rw [if_neg q2, if_neg q2]; exact mk
def Good (l : List Nd) (x : Int) (m : Int) : Prop := ∃ N g, g.x = x ∧ KOk l N g ∧ (g.p.length : Int) ≤ m ∧ g.c ≤ m
/-- What kids that are known come to. -/
theorem goods (l : List Nd) : ∀ (ks : List (Int × Int)), (∀ k ∈ ks, Good l k.1 k.2) → ∃ N gs, gs.map Kd.x = ks.map Prod.fst ∧ (∀ g ∈ gs, KOk l N g) ∧ (lens (gs.map Kd.p) : Int) ≤ (ks.map Prod.snd).sum ∧ sumC gs ≤ (ks.map Prod.snd).sum
  | [], _ => ⟨0, [], rfl, fun g hg => (by cases hg), Int.le_refl 0, Int.le_refl 0⟩
  | k :: ks, h => by
    obtain ⟨N, gs, e, q, s1, s2⟩ := goods l ks fun y hy => h y (by simp [hy])
    obtain ⟨M, g, e', q', s1', s2'⟩ := h k (by simp)
    refine ⟨N + M, g :: gs, by simp [e, e'], fun y hy => ?_, ?_, ?_⟩
    · cases hy with
      | head => exact q'.up (by omega)
      | tail _ hy => exact (q y hy).up (by omega)
    · simp only [List.map_cons, lens, List.sum_cons]; omega
    · simp only [List.map_cons, sumC, List.sum_cons]; omega
theorem good_node {l : List Nd} (x : Nat) (hx : x < l.length) (ks : List (Int × Int)) (hk : kids l[x] = ks.map Prod.fst) (h : ∀ k ∈ ks, Good l k.1 k.2) (hs : (ks.map Prod.snd).sum ≤ 200) : Good l x ((ks.map Prod.snd).sum + 1) := by
  obtain ⟨N, gs, e, q, s1, s2⟩ := goods l ks h
  rw [← e] at hk
  have kl := kids_len l[x]
  rw [hk, List.length_map] at kl
  have kb : arityN (bare l[x]).Kind = gs.length := kl.symm
  have sc := sumC0 q
  have ec := endC_le (bare l[x]) gs
  obtain ⟨e1, e2, e3, e4⟩ := end_ok q (bare l[x]) kb (by omega)
  refine ⟨N + 1000, ⟨x, ⟨bare l[x], gs.map Kd.t⟩, endT (bare l[x]) gs, endP (bare l[x]) gs, sumC gs + endC (bare l[x]) gs⟩, rfl, ⟨fun K d hK hd => tree_node q x hx hk hK (by omega), fun K d hK hd s h0 h1 => fold_node q _ kb hK (by omega) h0 (by simp only at h1; omega), fun K d hK hd out ho => e4 K d hK (by omega) out ho,
    fun K d hK hd => part_node q x hx hk (by omega) (by omega) hK (by omega), by simp only; omega, e1, e2⟩, by simp only; omega, by simp only; omega⟩
theorem good {l : List Nd} {ss : List Int} (st : Starts ss) (sl : ss.length = l.length) (hl : l.length ≤ 150) (h : ∀ j, (h : j < l.length) → fieldsB l[j] = true ∧ down ss (kids l[j]) (arityN l[j].Kind) j = some (ss.getD j 0)) : ∀ (x : Nat), x < l.length → Good l x (x + 1 - ss.getD x 0) := by
  intro x
  induction x using Nat.strongRecOn with
  | ind x ih =>
    intro hx
    have d := (h x hx).2
    have sx := st x (by omega)
    have al := arity_le l[x].Kind
    have kl := kids_len l[x]
    have step : ∀ (ks : List Int) (a b : Int) (j : Nat), 0 ≤ a → a ≤ x → down ss ks (j + 1) a = some b → ks.getD j 0 = a - 1 ∧ 1 ≤ a ∧ ∃ y : Nat, a - 1 = (y : Int) ∧ y < x ∧ down ss ks j (ss.getD y 0) = some b ∧ Good l (a - 1) (a - ss.getD y 0) ∧ 0 ≤ ss.getD y 0 ∧ ss.getD y 0 ≤ y := by
      intro ks a b j h0 h1 hd
      rw [down] at hd
      split at hd
      · rename_i hc
        refine ⟨hc.1, hc.2, (a - 1).toNat, by omega, by omega, hd, ?_, st _ (by omega)⟩
        have g := ih (a - 1).toNat (by omega) (by omega)
        rw [show ((a - 1).toNat : Int) = a - 1 by omega, show a - 1 + 1 - ss.getD (a - 1).toNat 0 = a - ss.getD (a - 1).toNat 0 by omega] at g
        exact g
      · cases hd
    rcases (by omega : arityN l[x].Kind = 0 ∨ arityN l[x].Kind = 1 ∨ arityN l[x].Kind = 2 ∨ arityN l[x].Kind = 3) with a | a | a | a
    · rw [a] at d
      have d := Option.some.inj d
      rw [← d]
      have := good_node x hx [] (by simpa using List.length_eq_zero_iff.1 (kl.trans a)) (fun k hk => by cases hk) (by simp)
      simp only [List.map_nil, List.sum_nil] at this
      rw [show (x : Int) + 1 - (x : Int) = 0 + 1 by omega]
      exact this
    · rw [a] at d kl
      obtain ⟨k0, _, y, ey, hy, d, g0, s0, s1⟩ := step _ _ _ 0 (by omega) (by omega) d
      have d := Option.some.inj d
      rw [← d]
      have hk : kids l[x] = [(x : Int) - 1] := by
        match hk : kids l[x], kl with
        | [k], _ => rw [hk] at k0; simp at k0; rw [k0]
      have := good_node x hx [((x : Int) - 1, (x : Int) - ss.getD y 0)] (by simpa using hk) (fun k hk => by cases hk with
        | head => exact g0
        | tail _ hk => cases hk) (by simp only [List.map_cons, List.map_nil, List.sum_cons, List.sum_nil]; omega)
      simp only [List.map_cons, List.map_nil, List.sum_cons, List.sum_nil] at this
      rw [show (x : Int) + 1 - ss.getD y 0 = (x : Int) - ss.getD y 0 + 0 + 1 by omega]
      exact this
    · rw [a] at d kl
      obtain ⟨k1, _, y, ey, hy, d, g1, s0, s1⟩ := step _ _ _ 1 (by omega) (by omega) d
      obtain ⟨k0, _, y', ey', hy', d, g0, s0', s1'⟩ := step _ _ _ 0 (by omega) (by omega) d
      have d := Option.some.inj d
      rw [← d]
      have hk : kids l[x] = [ss.getD y 0 - 1, (x : Int) - 1] := by
        match hk : kids l[x], kl with
        | [k, k'], _ => rw [hk] at k0 k1; simp at k0 k1; rw [k0, k1]; simp
      have := good_node x hx [(ss.getD y 0 - 1, ss.getD y 0 - ss.getD y' 0), ((x : Int) - 1, (x : Int) - ss.getD y 0)] (by simpa using hk) (fun k hk => by
        simp only [List.mem_cons, List.not_mem_nil, or_false] at hk
        rcases hk with rfl | rfl
        · exact g0
        · exact g1) (by simp only [List.map_cons, List.map_nil, List.sum_cons, List.sum_nil]; omega)
      simp only [List.map_cons, List.map_nil, List.sum_cons, List.sum_nil] at this
      rw [show (x : Int) + 1 - ss.getD y' 0 = ss.getD y 0 - ss.getD y' 0 + ((x : Int) - ss.getD y 0 + 0) + 1 by omega]
      exact this
    · rw [a] at d kl
      obtain ⟨k2, _, y, ey, hy, d, g2, s0, s1⟩ := step _ _ _ 2 (by omega) (by omega) d
      obtain ⟨k1, _, y', ey', hy', d, g1, s0', s1'⟩ := step _ _ _ 1 (by omega) (by omega) d
      obtain ⟨k0, _, y'', ey'', hy'', d, g0, s0'', s1''⟩ := step _ _ _ 0 (by omega) (by omega) d
      have d := Option.some.inj d
      rw [← d]
      have hk : kids l[x] = [ss.getD y' 0 - 1, ss.getD y 0 - 1, (x : Int) - 1] := by
        match hk : kids l[x], kl with
        | [k, k', k''], _ => rw [hk] at k0 k1 k2; simp at k0 k1 k2; rw [k0, k1, k2]; simp
      have := good_node x hx [(ss.getD y' 0 - 1, ss.getD y' 0 - ss.getD y'' 0), (ss.getD y 0 - 1, ss.getD y 0 - ss.getD y' 0), ((x : Int) - 1, (x : Int) - ss.getD y 0)] (by simpa using hk) (fun k hk => by
        simp only [List.mem_cons, List.not_mem_nil, or_false] at hk
        rcases hk with rfl | rfl | rfl
        · exact g0
        · exact g1
        · exact g2) (by simp only [List.map_cons, List.map_nil, List.sum_cons, List.sum_nil]; omega)
      simp only [List.map_cons, List.map_nil, List.sum_cons, List.sum_nil] at this
      rw [show (x : Int) + 1 - ss.getD y'' 0 = ss.getD y' 0 - ss.getD y'' 0 + (ss.getD y 0 - ss.getD y' 0 + ((x : Int) - ss.getD y 0 + 0)) + 1 by omega]
      exact this
/-- All four functions. -/
theorem fold_both (l : List Nd) (hn : l.length ≤ 1048576) (hsm : ∀ n ∈ l, small n) : ∃ (p : List Nd) (c : Int), p.length ≤ 151 ∧ Lg fun K => spec_Fold.f K l = some p ∧ impl_Fold.f K l = some p ∧ spec_FoldsOf.f K l = some c ∧ impl_FoldsOf.f K l = some c := by
  cases hk : nodesOkB l with
  | true =>
    obtain ⟨l1, l2, ss, st, sl, q⟩ := ok_all hk
    obtain ⟨N, ⟨x, t, t', p, c⟩, e, g, h1, h2⟩ := good st sl l2 q (l.length - 1) (by omega)
    have s0 := st (l.length - 1) (by omega)
    simp only at e h1 h2
    have c0 := g.c0
    simp only at c0
    refine ⟨p, c, by omega, N + big, fun K hK => ?_⟩
    have hb : big ≤ K := by omega
    have e' : w64 ((l.length : Int) - 1) = x := by rw [e, w64_of (by omega) (by omega)]; omega
    have gt := g.tree K K (by omega) (by omega)
    have gp := g.part K K (by omega) (by omega)
    have gf := g.fold K K (by omega) (by omega) 0 (by omega) (by simp only; omega)
    have gl := g.flat K K (by omega) (by omega) [] (by simp; omega)
    have fx := g.fix
    simp only at gt gp gf gl fx
    rw [List.nil_append, List.length_nil, show ((0 : Nat) : Int) = 0 from rfl, fx] at gl
    rw [Int.zero_add] at gf
    have w : impl_wholeTree.f K l = some t := by unfold impl_wholeTree.f impl_treeOf.f; rw [e', gt]; rfl
    refine ⟨?_, ?_, ?_, ?_⟩
    · unfold spec_Fold.f spec_l14Part.f
      rw [spec_nodesOk l hn hsm K hb, hk, e', gp]
      rfl
    · unfold impl_Fold.f impl_folder_fold.f impl_flat.f
      rw [impl_nodesOk l hn hsm K hb, hk, w]
      simp only [Option.bind_some, Bool.not_true, Bool.false_eq_true, if_false]
      rw [gf]
      simp only [Option.bind_some]
      rw [gl]
      rfl
    · unfold spec_FoldsOf.f spec_l14Part.f
      rw [spec_nodesOk l hn hsm K hb, hk, e', gp]
      rfl
    · unfold impl_FoldsOf.f impl_folder_fold.f
      rw [impl_nodesOk l hn hsm K hb, hk, w]
      simp only [Option.bind_some, Bool.not_true, Bool.false_eq_true, if_false]
      rw [gf]
      rfl
  | false =>
    refine ⟨[], 0, by simp, big, fun K hb => ⟨?_, ?_, ?_, ?_⟩⟩
    · unfold spec_Fold.f; rw [spec_nodesOk l hn hsm K hb, hk]; rfl
    · unfold impl_Fold.f; rw [impl_nodesOk l hn hsm K hb, hk]; rfl
    · unfold spec_FoldsOf.f; rw [spec_nodesOk l hn hsm K hb, hk]; rfl
    · unfold impl_FoldsOf.f; rw [impl_nodesOk l hn hsm K hb, hk]; rfl
end Go.Proofs.YtfmlamheflbgdaaDoorE
