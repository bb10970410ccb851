/- Parts of programs: they are programs, begin and end where they are said to, and print as they do in their place. -/
import Derived.Test.YtfkanjgfjejgiaaDoorZUvPar
import Derived.Test.YtfkanjgfjejgiaaDoorZUvFlat
import Derived.Lib.ItoaLen
set_option linter.unusedSimpArgs false
set_option linter.unusedVariables false
namespace Go.Proofs.YtfkanjgfjejgiaaDoorE
open Go.Ev
set_option linter.unusedVariables false
set_option linter.unusedSimpArgs false
theorem set_getD_eq {α : Type} (l : List α) (i : Nat) (x d : α) (h : i < l.length) : (l.set i x).getD i d = x := by simp [List.getD, h]
theorem set_getD_ne {α : Type} (l : List α) (i j : Nat) (x d : α) (h : i ≠ j) : (l.set i x).getD j d = l.getD j d := by simp [List.getD, List.getElem?_set_ne h]
theorem ext_getD {α : Type} (d : α) {l m : List α} (h : l.length = m.length) (e : ∀ i, i < l.length → l.getD i d = m.getD i d) : l = m := by
  refine List.ext_getElem h fun i h1 h2 => ?_
  have := e i h1
  simpa [List.getD, h1, h2] using this
/-! ### the reference's search -/
theorem parOf_ge (l : List Nd) (c : Int) : -1 ≤ parOf l c := by
  have : ∀ d i, -1 ≤ parFrom l c d i := by
    intro d
    induction d with
    | zero => intro i; simp [parFrom]
    | succ d ih =>
      intro i
      simp only [parFrom]
      split
      · omega
      · exact ih (i + 1)
  exact this l.length 0
def pars (l : List Nd) : List Int := (List.range l.length).map fun c : Nat => parOf l (c : Int)
theorem pars_len (l : List Nd) : (pars l).length = l.length := by simp [pars]
theorem pars_at (l : List Nd) (c : Nat) (hc : c < l.length) : (pars l).getD c 0 = parOf l c := by simp [pars, List.getD, hc]
theorem at_pars (l : List Nd) (c : Nat) (hc : c < l.length) : at_ (pars l) (c : Int) = some (parOf l c) := by rw [at_getD (pars l) 0 c (by rw [pars_len]; exact hc), pars_at l c hc]
theorem impl_par_l0 {l : List Nd} (hl : l.length ≤ 150) (K : Nat) (d : Nat) : ∀ (k i : Nat) (p : List Int), i + d = l.length → d < k → p.length = l.length → (∀ c, c < i → p.getD c 0 = -1) → ∃ p', impl_parents.l0 l K k i p = some p' ∧ p'.length = l.length ∧ ∀ c, c < l.length → p'.getD c 0 = -1 := by
  induction d with
  | zero =>
    intro k i p hi hk hp hc
    obtain ⟨k, rfl⟩ := succ_of (show 0 < k by omega)
    rw [impl_parents.l0, if_neg (by simp only [List.length_replicate, Int.toNat_natCast]; omega)]
    exact ⟨p, rfl, hp, fun c h => hc c (by omega)⟩
  | succ d ih =>
    intro k i p hi hk hp hc
    obtain ⟨k, rfl⟩ := succ_of (show 0 < k by omega)
    rw [impl_parents.l0, if_pos (by simp only [List.length_replicate, Int.toNat_natCast]; omega), at_getD p 0 i (by omega), Option.bind_some, w64_of (by omega) (by omega), Int.toNat_natCast]
    refine ih k (i + 1) (p.set i (-1)) (by omega) (by omega) (by simpa using hp) fun c hc' => ?_
    by_cases hci : c = i
    · subst hci; rw [set_getD_eq _ _ _ _ (by omega)]
    · rw [set_getD_ne _ _ _ _ _ (by omega)]; exact hc c (by omega)
theorem impl_par_l2 {l : List Nd} (h : nodesOkB l = true) (i : Nat) (hi : i < l.length) (K : Nat) (e : Nat) : ∀ (k j : Nat) (p : List Int), j + e = arityN (nd l i).Kind → e < k → p.length = l.length →
    ∃ p' : List Int, impl_parents.l2 i (kids (nd l i)) K k j p = some p' ∧ p'.length = l.length ∧ (∀ c : Nat, c < l.length → p'.getD c 0 = if hasFrom (kids (nd l i)) c e j = true then (i : Int) else p.getD c 0) := by
  have hlen := ok_len h
  have ha := arity_le (nd l i).Kind
  have hk' := kids_len (nd l i)
  induction e with
  | zero =>
    intro k j p hj hk hp
    obtain ⟨k, rfl⟩ := succ_of hk
    rw [impl_parents.l2, if_neg (by omega)]
    exact ⟨p, rfl, hp, fun c _ => by simp [hasFrom]⟩
  | succ e ih =>
    intro k j p hj hk hp
    obtain ⟨k, rfl⟩ := succ_of hk
    have hb := ok_kids h i hi j (by omega)
    obtain ⟨q, hq⟩ : ∃ q : Nat, rd (kids (nd l i)) (j : Int) = (q : Int) := ⟨(rd (kids (nd l i)) (j : Int)).toNat, by omega⟩
    obtain ⟨p', h1, h2, h3⟩ := ih k (j + 1) (p.set q i) (by omega) (by omega) (by simpa using hp)
    refine ⟨p', ?_, h2, fun c hc => ?_⟩
    · rw [impl_parents.l2, if_pos (by omega), at_rd _ (j : Int) (by omega) (by omega), Option.bind_some, hq, at_getD p 0 q (by omega), Option.bind_some, w64_of (by omega) (by omega), Int.toNat_natCast]
      exact h1
    · have hs : hasFrom (kids (nd l i)) c (e + 1) j = (decide (rd (kids (nd l i)) (j : Int) = c) || hasFrom (kids (nd l i)) c e (j + 1)) := by
        simp only [hasFrom]
        by_cases hx : rd (kids (nd l i)) (j : Int) = c
        · rw [if_pos hx, decide_eq_true hx, Bool.true_or]
        · rw [if_neg hx, decide_eq_false hx, Bool.false_or]
      rw [h3 c hc, hs, hq]
      by_cases hcq : q = c
      · subst hcq
        rw [set_getD_eq _ _ _ _ (by omega)]
        simp
      · rw [set_getD_ne _ _ _ _ _ hcq, decide_eq_false (by omega), Bool.false_or]
theorem impl_par_l1 {l : List Nd} (h : nodesOkB l = true) (K : Nat) (hK : 1000 ≤ K) (d : Nat) : ∀ (k i : Nat) (p : List Int), i + d = l.length → d < k → p.length = l.length → (∀ c : Nat, c < l.length → p.getD c 0 = lastPar l c i) → impl_parents.l1 l K k i p = some (pars l) := by
  have hlen := ok_len h
  induction d with
  | zero =>
    intro k i p hi hk hp hc
    obtain ⟨k, rfl⟩ := succ_of (show 0 < k by omega)
    rw [impl_parents.l1, if_neg (by omega)]
    refine congrArg some (ext_getD 0 (by rw [pars_len, hp]) fun c hc' => ?_)
    rw [pars_at l c (by omega), hc c (by omega)]
    exact last_par h c i (by omega) fun x h1 h2 => by omega
  | succ d ih =>
    intro k i p hi hk hp hc
    obtain ⟨k, rfl⟩ := succ_of (show 0 < k by omega)
    obtain ⟨p', h1, h2, h3⟩ := impl_par_l2 h i (by omega) K (arityN (nd l i).Kind) K 0 p (by omega) (by have := arity_le (nd l i).Kind; omega) hp
    rw [impl_parents.l1, if_pos (by omega)]
    simp only [jn]
    rw [at_nd l i (by omega), Option.bind_some, impl_kids, Option.bind_some]
    rw [show (0 : Int) = ((0 : Nat) : Int) from rfl, h1, Option.bind_some, w64_of (by omega) (by omega)]
    refine ih k (i + 1) p' (by omega) (by omega) h2 fun c hc' => ?_
    rw [h3 c hc', hc c hc']
    rfl
theorem impl_pars {l : List Nd} (h : nodesOkB l = true) (K : Nat) (hk : 2000 ≤ K) : impl_parents.f K l = some (pars l) := by
  have hlen := ok_len h
  unfold impl_parents.f
  simp only [jn]
  obtain ⟨p', h1, h2, h3⟩ := impl_par_l0 hlen.2 K l.length K 0 (List.replicate l.length 0) (by omega) (by omega) (by simp) (fun c h => by omega)
  rw [gd_pos (by omega), Int.toNat_natCast, show (0 : Int) = ((0 : Nat) : Int) from rfl, show (List.replicate l.length ((0 : Nat) : Int)) = List.replicate l.length (0 : Int) from rfl, h1, Option.bind_some,
    impl_par_l1 h K (by omega) l.length K 0 p' (by omega) (by omega) h2 (fun c hc => by rw [h3 c hc]; rfl)]
  rfl
/-! ### homes -/
end Go.Proofs.YtfkanjgfjejgiaaDoorE

namespace Go.Proofs.YtfkanjgfjejgiaaDoorE
open Go.Ev Go.RowKit
set_option linter.unusedVariables false
set_option linter.unusedSimpArgs false
/-! ### a node moved down -/
def movN (s : Int) (n : Nd) : Nd := ⟨n.Kind, if 1 ≤ arityN n.Kind then n.A - s else n.A, if 2 ≤ arityN n.Kind then n.B - s else n.B, if 3 ≤ arityN n.Kind then n.C - s else n.C, n.N, n.Name, n.Other⟩
theorem ar_cases (k : Int) : arityN k = 0 ∨ arityN k = 1 ∨ arityN k = 2 ∨ arityN k = 3 := by have := arity_le k; omega
theorem mov_kids (s : Int) (n : Nd) : kids (movN s n) = (kids n).map (· - s) := by
  unfold kids movN
  simp only
  rcases ar_cases n.Kind with h | h | h | h <;> simp [h]
theorem rd_map (ks : List Int) (s : Int) (m : Nat) (h : m < ks.length) : rd (ks.map (· - s)) (m : Int) = rd ks (m : Int) - s := by
  simp [rd, List.getD, h]
theorem mov_noKids (s : Int) (n : Nd) : noKids (movN s n) = noKids n := by
  unfold noKids movN
  simp only
  rcases ar_cases n.Kind with h | h | h | h <;> simp [h]
theorem mov_fields (s : Int) (n : Nd) : fieldsB (movN s n) = fieldsB n := by
  show (inB n.Kind 1 19 && (fitsB n.Name (decide (0 < namesN n.Kind)) && (fitsB n.Other (decide (1 < namesN n.Kind)) && (noKids (movN s n) && restB n)))) = fieldsB n
  rw [mov_noKids]; rfl
def midK (n : Nd) : Prop := ∀ m, m < arityN n.Kind → 0 ≤ rd (kids n) (m : Int) ∧ rd (kids n) (m : Int) ≤ 1000
theorem kid1 (n : Nd) (h : 2 ≤ arityN n.Kind) : rd (kids n) 1 = n.B := by
  unfold kids
  rcases ar_cases n.Kind with q | q | q | q <;> rw [q] at h ⊢ <;> first | rfl | omega
theorem kid2 (n : Nd) (h : 3 ≤ arityN n.Kind) : rd (kids n) 2 = n.C := by
  unfold kids
  rcases ar_cases n.Kind with q | q | q | q <;> rw [q] at h ⊢ <;> first | rfl | omega
theorem impl_mov (K : Nat) (n : Nd) (s : Int) (h0 : 0 ≤ s) (h1 : s ≤ 1000) (hm : midK n) : impl_moved.f K n s = some (movN s n) := by
  unfold impl_moved.f
  simp only [jn]
  rw [impl_arity, Option.bind_some]
  have hA : 1 ≤ arityN n.Kind → w64 (n.A - s) = n.A - s := fun q => by
    have := hm 0 (by omega); rw [show ((0 : Nat) : Int) = 0 from rfl, kid0 n (by omega)] at this; exact w64_of (by omega) (by omega)
  have hB : 2 ≤ arityN n.Kind → w64 (n.B - s) = n.B - s := fun q => by
    have := hm 1 (by omega); rw [show ((1 : Nat) : Int) = 1 from rfl, kid1 n q] at this; exact w64_of (by omega) (by omega)
  have hC : 3 ≤ arityN n.Kind → w64 (n.C - s) = n.C - s := fun q => by
    have := hm 2 (by omega); rw [show ((2 : Nat) : Int) = 2 from rfl, kid2 n q] at this; exact w64_of (by omega) (by omega)
  unfold movN
  rcases ar_cases n.Kind with q | q | q | q
  · simp [q]
  · simp [q, hA (by omega)]
  · simp [q, hA (by omega), hB (by omega)]
  · simp [q, hA (by omega), hB (by omega), hC (by omega)]
/-! ### the part of a node -/
def partL (l : List Nd) (s i : Nat) : List Nd := ((l.take (i + 1)).drop s).map (movN s)
theorem part_len (l : List Nd) (s i : Nat) (hi : i < l.length) : (partL l s i).length = i + 1 - s := by
  unfold partL; rw [List.length_map, List.length_drop, List.length_take]; omega
theorem part_nd (l : List Nd) (s i x : Nat) (hi : i < l.length) (hx : x < i + 1 - s) : nd (partL l s i) x = movN s (nd l (s + x)) := by
  have h1 : s + x < l.length := by omega
  rw [nd_get _ _ (by rw [part_len l s i hi]; exact hx), nd_get _ _ h1]
  unfold partL
  rw [List.getElem_map, List.getElem_drop, List.getElem_take]
theorem go_of (t : List Int) (ht : Starts t) : ∀ (r : List Nd) (i : Nat), i + r.length = t.length → (∀ j, (h : j < r.length) → fieldsB r[j] = true ∧ down t (kids r[j]) (arityN r[j].Kind) ((i + j : Nat) : Int) = some (t.getD (i + j) 0)) → startsGo r (t.take i) = some t := by
  intro r
  induction r with
  | nil => intro i h _; simp at h; rw [startsGo, h, List.take_length]
  | cons n r ih =>
    intro i h q
    simp only [List.length_cons] at h
    obtain ⟨f, d⟩ := q 0 (by simp)
    simp only [List.getElem_cons_zero, Nat.add_zero] at f d
    have hst : Starts (t.take i) := fun j hj => by
      rw [List.length_take] at hj
      have := ht j (by omega)
      rwa [show (t.take i).getD j 0 = t.getD j 0 by simp [List.getD, List.getElem?_take, show j < i by omega]]
    have hl : (t.take i).length = i := by rw [List.length_take]; omega
    have e : down (t.take i) (kids n) (arityN n.Kind) ((t.take i).length : Int) = some (t.getD i 0) := by
      rw [← d, hl]
      have := down_app (u := t.drop i) (ks := kids n) hst (arityN n.Kind) (i : Int) (by omega) (by rw [hl]; exact Int.le_refl _)
      rw [List.take_append_drop] at this
      exact this.symm
    have e2 : t.take i ++ [t.getD i 0] = t.take (i + 1) := by
      rw [List.take_add_one]; simp [List.getD, show i < t.length by omega]
    rw [startsGo, if_pos f, e]
    show startsGo r (t.take i ++ [t.getD i 0]) = some t
    rw [e2]
    refine ih (i + 1) (by omega) fun j hj => ?_
    have := q (j + 1) (by simpa using hj)
    rw [List.getElem_cons_succ] at this
    rwa [show i + 1 + j = i + (j + 1) by omega]
theorem down_mov {t t' ks ks' : List Int} {N s m' : Nat} (ht : StN t N) (e : ∀ x : Nat, x < m' → rd t' (x : Int) = rd t ((s + x : Nat) : Int) - s) (j : Nat) : ∀ (a b : Int), 0 ≤ a → a ≤ N → a ≤ s + m' → (s : Int) ≤ b → (∀ m, m < j → rd ks' (m : Int) = rd ks (m : Int) - s) →
    down t ks j a = some b → down t' ks' j (a - s) = some (b - s) := by
  induction j with
  | zero => intro a b _ _ _ _ _ h; rw [down_z] at h ⊢; cases h; rfl
  | succ j ih =>
    intro a b h0 h1 h2 hb hk h
    rw [down_s] at h ⊢
    split at h
    · rename_i hc
      have hle : rd t (a - 1) ≤ a - 1 ∧ 0 ≤ rd t (a - 1) := by
        have := ht.2 (a - 1).toNat (by omega)
        rw [← rd_nat, show (((a - 1).toNat : Nat) : Int) = a - 1 by omega] at this
        exact ⟨this.2, this.1⟩
      have hd := dn_le ht j _ _ hle.2 (by omega) h
      rw [if_pos ⟨by rw [hk j (by omega)]; omega, by omega⟩]
      have e1 : rd t' (a - s - 1) = rd t (a - 1) - s := by
        have := e (a - s - 1).toNat (by omega)
        rw [show (((a - s - 1).toNat : Nat) : Int) = a - s - 1 by omega, show ((s + (a - s - 1).toNat : Nat) : Int) = a - 1 by omega] at this
        exact this
      rw [e1]
      exact ih _ _ hle.2 (by omega) (by omega) hb (fun m hm => hk m (by omega)) h
    · cases h
theorem ok_fields {l : List Nd} (h : nodesOkB l = true) (x : Nat) (hx : x < l.length) : fieldsB (nd l x) = true := by
  obtain ⟨_, _, ss, _, _, q⟩ := ok_all h
  rw [nd_get l x hx]; exact (q x hx).1
theorem ok_root {l : List Nd} (h : nodesOkB l = true) : rd (startsL l) ((l.length - 1 : Nat) : Int) = 0 := by
  have hg := (startsL_ok h).1
  unfold nodesOkB at h
  simp only [Bool.and_eq_true] at h
  rw [hg] at h
  exact of_decide_eq_true h.2
theorem kids_mid {l : List Nd} (h : nodesOkB l = true) (x : Nat) (hx : x < l.length) : midK (nd l x) := fun m hm => by
  have := ok_kids h x hx m hm
  have := ok_len h
  omega
def relS (t : List Int) (s n : Nat) : List Int := (List.range n).map fun x => rd t ((s + x : Nat) : Int) - s
theorem relS_rd (t : List Int) (s n x : Nat) (hx : x < n) : rd (relS t s n) (x : Int) = rd t ((s + x : Nat) : Int) - s := by
  unfold relS rd; simp [List.getD, hx]
/-- A part is a program. -/
theorem part_ok {l : List Nd} (h : nodesOkB l = true) (i s : Nat) (hi : i < l.length) (hs : rd (startsL l) (i : Int) = s) : nodesOkB (partL l s i) = true ∧ startsL (partL l s i) = relS (startsL l) s (i + 1 - s) := by
  have hsi : s ≤ i := by have := st_le h i hi; omega
  have hlen := ok_len h
  obtain ⟨_, hst, hd⟩ := startsL_ok h
  generalize ht' : relS (startsL l) s (i + 1 - s) = t'
  have hrl : t'.length = i + 1 - s := by rw [← ht']; simp [relS]
  have hrd : ∀ x : Nat, x < i + 1 - s → rd t' (x : Int) = rd (startsL l) ((s + x : Nat) : Int) - s := fun x hx => by rw [← ht']; exact relS_rd _ _ _ _ hx
  have hlam : ∀ x : Nat, x < i + 1 - s → (s : Int) ≤ rd (startsL l) ((s + x : Nat) : Int) ∧ rd (startsL l) ((s + x : Nat) : Int) ≤ (s + x : Nat) := fun x hx => by
    have := laminar hst hd (i + 1) i (by omega) hi (s + x) (by omega) (by omega)
    have := hst.2 (s + x) (by omega)
    rw [← rd_nat] at this
    omega
  have hSt : Starts t' := fun j hj => by
    rw [← rd_nat, hrd j (by omega)]
    have := hlam j (by omega)
    omega
  have hgo : startsGo (partL l s i) [] = some t' := by
    have := go_of t' hSt (partL l s i) 0 (by rw [part_len l s i hi, hrl]; omega) fun j hj => ?_
    · simpa using this
    rw [part_len l s i hi] at hj
    have en : (partL l s i)[j]'(by rw [part_len l s i hi]; exact hj) = movN s (nd l (s + j)) := by rw [← nd_get]; exact part_nd l s i j hi hj
    rw [en, mov_fields, Nat.zero_add]
    refine ⟨ok_fields h _ (by omega), ?_⟩
    rw [← rd_nat, hrd j hj]
    have := down_mov (t' := t') (ks' := kids (movN s (nd l (s + j)))) hst (m' := i + 1 - s) hrd (arityN (nd l (s + j)).Kind) ((s + j : Nat) : Int) _ (by omega) (by omega) (by omega) (hlam j hj).1 (fun m hm => by rw [mov_kids]; exact rd_map _ _ _ (by rw [kids_len]; exact hm)) (hd (s + j) (by omega))
    rw [show ((s + j : Nat) : Int) - s = (j : Int) by omega] at this
    exact this
  refine ⟨?_, by unfold startsL; rw [hgo]; rfl⟩
  unfold nodesOkB inB
  rw [hgo, part_len l s i hi]
  have e : t'.getD (i + 1 - s - 1) 0 = 0 := by
    rw [← rd_nat, hrd _ (by omega), show s + (i + 1 - s - 1) = i by omega, hs]; omega
  simp only [Bool.and_eq_true, decide_eq_true_eq]
  exact ⟨⟨by omega, by omega⟩, e⟩
theorem impl_startOf_ok {l : List Nd} (h : nodesOkB l = true) (K : Nat) (x : Nat) : x < l.length → ∀ k, x < k → impl_startOf.l0 l K k x = some (rd (startsL l) (x : Int)) := by
  induction x using Nat.strongRecOn with
  | ind x ih =>
    intro hx k hk
    obtain ⟨k, rfl⟩ := succ_of (show 0 < k by omega)
    rw [impl_startOf.l0, at_nd l x hx, Option.bind_some, impl_arity, Option.bind_some]
    by_cases ha : arityN (nd l x).Kind = 0
    · rw [if_neg (by omega), start_leaf h x hx ha]
    · obtain ⟨e, h0, h1⟩ := start_step h x hx (by omega)
      obtain ⟨q, hq⟩ : ∃ q : Nat, (nd l x).A = (q : Int) := ⟨(nd l x).A.toNat, by omega⟩
      rw [if_pos (by omega), e, hq]
      exact ih q (by omega) (by omega) k (by omega)
theorem impl_StartOf_ok {l : List Nd} (h : nodesOkB l = true) (hsm : ∀ n ∈ l, small n) (x : Nat) (hx : x < l.length) (K : Nat) (hk : big ≤ K) : impl_StartOf.f K l x = some (rd (startsL l) (x : Int)) := by
  have hk' := hk
  unfold big at hk'
  have hlen := ok_len h
  unfold impl_StartOf.f
  simp only [jn]
  have hin : inB (x : Int) 0 ((l.length : Int) - 1) = true := by unfold inB; simp; omega
  rw [impl_nodesOk l (by omega) hsm K hk, Option.bind_some, h, if_neg (by simp), w64_of (by omega) (by omega), impl_inB, Option.bind_some, hin]
  simp only [Bool.not_true, Bool.false_eq_true, if_false]
  unfold impl_startOf.f
  simp only [jn]
  rw [impl_startOf_ok h K x hx K (by omega)]
  rfl
theorem impl_StartOf_no {l : List Nd} (h : nodesOkB l = false) (hn : l.length ≤ 1048576) (hsm : ∀ n ∈ l, small n) (x : Int) (K : Nat) (hk : big ≤ K) : impl_StartOf.f K l x = some (-1) := by
  unfold impl_StartOf.f
  simp only [jn]
  rw [impl_nodesOk l hn hsm K hk, Option.bind_some, h]
  rfl
theorem part_l0 (l : List Nd) (a y : Int) (h0 : 0 ≤ y) (h1 : y ≤ 1000) (W : List Nd) (hW : (l.take (w64 (a + 1)).toNat).drop y.toNat = W) (hm : ∀ n ∈ W, midK n) (hl : W.length ≤ 1000) (K : Nat) (d : Nat) : ∀ (k x : Nat) (o : List Nd), x + d = W.length → d < k → o.length ≤ 1000 + x →
    impl_Part.l0 l a y K k x o = some (o ++ (W.drop x).map (movN y)) := by
  induction d with
  | zero =>
    intro k x o hx hk ho
    obtain ⟨k, rfl⟩ := succ_of (show 0 < k by omega)
    rw [impl_Part.l0, hW, if_neg (by omega), List.drop_eq_nil_of_le (by omega)]
    simp
  | succ d ih =>
    intro k x o hx hk ho
    obtain ⟨k, rfl⟩ := succ_of (show 0 < k by omega)
    have hlt : x < W.length := by omega
    rw [impl_Part.l0, hW, if_pos (by omega), at_in W x hlt, Option.bind_some, impl_mov K _ y h0 h1 (hm _ (List.getElem_mem hlt)), Option.bind_some, gd_pos (by omega), w64_of (by omega) (by omega)]
    rw [show ((x : Int) + 1) = ((x + 1 : Nat) : Int) by omega, ih k (x + 1) _ (by omega) (by omega) (by simp; omega)]
    rw [List.drop_eq_getElem_cons hlt, List.map_cons, List.append_assoc]; rfl
theorem impl_Part_ok {l : List Nd} (h : nodesOkB l = true) (hsm : ∀ n ∈ l, small n) (i s : Nat) (hi : i < l.length) (hs : rd (startsL l) (i : Int) = s) (K : Nat) (hk : big ≤ K) : impl_Part.f K l i = some (partL l s i) := by
  have hk' := hk
  unfold big at hk'
  have hlen := ok_len h
  have hsi : s ≤ i := by have := st_le h i hi; omega
  unfold impl_Part.f
  simp only [jn]
  rw [impl_StartOf_ok h hsm i hi K hk, Option.bind_some, hs, if_neg (by omega)]
  have ew : w64 ((i : Int) + 1) = ((i + 1 : Nat) : Int) := by rw [w64_of (by omega) (by omega)]; omega
  have hW : (l.take (w64 ((i : Int) + 1)).toNat).drop ((s : Nat) : Int).toNat = (l.take (i + 1)).drop s := by rw [ew]; rfl
  have hWl : ((l.take (i + 1)).drop s).length = i + 1 - s := by rw [List.length_drop, List.length_take]; omega
  rw [gd_pos (by rw [ew]; omega)]
  have := part_l0 l i (s : Int) (by omega) (by omega) _ hW (fun n hn => by
    obtain ⟨x, hx, e⟩ := List.getElem_of_mem (List.mem_of_mem_take (List.mem_of_mem_drop hn))
    rw [← e, ← nd_get l x hx]; exact kids_mid h x hx) (by rw [hWl]; omega) K (i + 1 - s) K 0 [] (by rw [hWl]; omega) (by omega) (by simp)
  rw [show ((0 : Nat) : Int) = 0 from rfl] at this
  rw [this]
  simp [partL]
theorem impl_Part_no {l : List Nd} (h : nodesOkB l = false) (hn : l.length ≤ 1048576) (hsm : ∀ n ∈ l, small n) (x : Int) (K : Nat) (hk : big ≤ K) : impl_Part.f K l x = some [] := by
  unfold impl_Part.f
  simp only [jn]
  rw [impl_StartOf_no h hn hsm x K hk, Option.bind_some, if_pos (by omega)]
theorem part_small {l : List Nd} (hsm : ∀ n ∈ l, small n) (s i : Nat) : ∀ n ∈ partL l s i, small n := fun n hn => by
  unfold partL at hn
  obtain ⟨x, hx, rfl⟩ := List.mem_map.1 hn
  exact hsm x (List.mem_of_mem_take (List.mem_of_mem_drop hx))
end Go.Proofs.YtfkanjgfjejgiaaDoorE
