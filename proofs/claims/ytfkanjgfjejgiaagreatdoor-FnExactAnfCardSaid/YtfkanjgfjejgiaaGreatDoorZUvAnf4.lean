/- Names for what is done ahead: the whole program, both ways. -/
import Derived.Test.YtfkanjgfjejgiaaGreatDoorZUvAnf2
import Derived.Test.YtfkanjgfjejgiaaGreatDoorZUvBinds
set_option linter.unusedSimpArgs false
set_option linter.unusedVariables false
namespace Go.Proofs.YtfkanjgfjejgiaaGreatDoorE
open Go.Ev Go.RowKit
set_option linter.unusedVariables false
set_option linter.unusedSimpArgs false
section
variable (u : List ByteArray) (ah : Nat)
def allG : Nat → List AK → List AK
  | _, [] => []
  | i, g :: gs => (if goes ah i g = true then [g] else []) ++ allG (i + 1) gs
def nmG (g : AK) : ByteArray := freshT (nextU u g.b)
def allTP : Nat → List AK → List (impl_tree × List Nd)
  | _, [] => []
  | i, g :: gs => (stT u ah i g, stP u ah i g) :: allTP (i + 1) gs
theorem allN_G : ∀ (i : Nat) (gs : List AK), allN u ah i gs = (allG ah i gs).map (nmG u)
  | _, [] => rfl
  | i, g :: gs => by
    simp only [allN, allG, List.map_append, allN_G (i + 1) gs]
    unfold stN; split <;> simp [nmG]
theorem allLt_G : ∀ (i : Nat) (gs : List AK), allLt ah i gs = (allG ah i gs).map AK.t'
  | _, [] => rfl
  | i, g :: gs => by
    simp only [allLt, allG, List.map_append, allLt_G (i + 1) gs]
    unfold stLt; split <;> simp
theorem allLp_G : ∀ (i : Nat) (gs : List AK), allLp ah i gs = (allG ah i gs).map AK.p
  | _, [] => rfl
  | i, g :: gs => by
    simp only [allLp, allG, List.map_append, allLp_G (i + 1) gs]
    unfold stLp; split <;> simp
theorem allT_TP : ∀ (i : Nat) (gs : List AK), allT u ah i gs = (allTP u ah i gs).map Prod.fst
  | _, [] => rfl
  | i, g :: gs => by simp [allT, allTP, allT_TP (i + 1) gs]
theorem allP_TP : ∀ (i : Nat) (gs : List AK), allP u ah i gs = (allTP u ah i gs).map Prod.snd
  | _, [] => rfl
  | i, g :: gs => by simp [allP, allTP, allP_TP (i + 1) gs]
theorem allTP_len : ∀ (i : Nat) (gs : List AK), (allTP u ah i gs).length = gs.length
  | _, [] => rfl
  | i, g :: gs => by simp [allTP, allTP_len (i + 1) gs]
theorem allG_mem : ∀ (i : Nat) (gs : List AK), ∀ g ∈ allG ah i gs, g ∈ gs
  | _, [], g, h => by simp [allG] at h
  | i, y :: gs, g, h => by
    simp only [allG, List.mem_append] at h
    rcases h with h | h
    · split at h
      · simp at h; simp [h]
      · simp at h
    · exact List.mem_cons_of_mem _ (allG_mem (i + 1) gs g h)
theorem allG_len : ∀ (i : Nat) (gs : List AK), (allG ah i gs).length ≤ gs.length
  | _, [] => Nat.le_refl _
  | i, g :: gs => by
    have := allG_len (i + 1) gs
    simp only [allG, List.length_append, List.length_cons]
    split <;> simp <;> omega
theorem all_lens : ∀ (i : Nat) (gs : List AK), lens ((allTP u ah i gs).map Prod.snd) + lens ((allG ah i gs).map AK.p) + (allG ah i gs).length ≤ lens (gs.map AK.p) + 2 * gs.length
  | _, [] => by simp [allTP, allG, lens]
  | i, g :: gs => by
    have := all_lens (i + 1) gs
    simp only [allTP, allG, List.map_cons, lens, List.length_cons]
    by_cases h : goes ah i g = true
    · rw [if_pos h]
      have e : stP u ah i g = [varN (freshT (nextU u g.b))] := by unfold stP; rw [if_pos h]
      rw [e]
      simp [lens]
      omega
    · rw [if_neg h]
      have e : stP u ah i g = g.p := by unfold stP; rw [if_neg h]
      rw [e]
      simp
      omega
end
structure AOk (l : List Nd) (N : Nat) (g : AK) : Prop where
  hx : g.x < l.length
  kd : (nd l g.x).Kind = g.kd
  tk : g.t.n.Kind = g.kd
  tree : ∀ K d, N ≤ K → N ≤ d → impl_treeOf.r K d l (g.x : Int) = some g.t
  anf : ∀ K d, N ≤ K → N ≤ d → impl_namer_anf.r K d ⟨namesL l, (g.a : Int)⟩ g.t = some (g.t', ⟨namesL l, (g.b : Int)⟩)
  part : ∀ K d, N ≤ K → N ≤ d → spec_l13Part.r K d l (g.x : Int) (g.a : Int) = some (g.p, (g.b : Int))
  flat : FlatOk N g.t' g.p
  gp : GP g.p
  fix : shiftL 0 g.p = g.p
  mb : g.b + phi (namesL l) g.b < 690
theorem AOk.up {l : List Nd} {N M : Nat} {g : AK} (h : AOk l N g) (q : N ≤ M) : AOk l M g :=
  ⟨h.hx, h.kd, h.tk, fun K d a b => h.tree K d (by omega) (by omega), fun K d a b => h.anf K d (by omega) (by omega), fun K d a b => h.part K d (by omega) (by omega), h.flat.up q, h.gp, h.fix, h.mb⟩
theorem var_fields {m : Nat} (h : m < 700) : fieldsB (varN (freshT m)) = true := by
  have := (fresh_all h (K := 20) (by omega)).2.2.2
  have e : fieldsB (varN (freshT m)) = (nameB (freshT m) && true) := by
    unfold fieldsB varN
    have h1 : inB (1 : Int) 1 19 = true := rfl
    have h2 : namesN 1 = 1 := rfl
    have h3 : arityN 1 = 0 := by decide
    simp [h1, h2, fitsB, noKids, restB, h3, empty_l]
  rw [e, this]; rfl
theorem let_head {m : Nat} (h : m < 700) : headB (letN (freshT m)) = true := by
  have := (fresh_all h (K := 20) (by omega)).2.2.2
  have e : headB (letN (freshT m)) = (nameB (freshT m) && true) := by
    unfold headB letN
    have h1 : inB (5 : Int) 1 19 = true := rfl
    have h2 : namesN 5 = 1 := rfl
    simp [h1, h2, fitsB, restB, empty_l]
  rw [e, this]; rfl
theorem ar1 : arityN 1 = 0 := by decide
theorem ar5 : arityN 5 = 2 := by decide
theorem var_flat (s : ByteArray) : FlatOk 1000 ⟨varN s, []⟩ [varN s] := flat_node (N := 0) (gs := []) (fun g hg => by cases hg) (varN s) ar1 (by simp [lens])
theorem wrap_flat (u : List ByteArray) {N : Nat} {T : impl_tree} {P : List Nd} (h0 : FlatOk N T P) : ∀ (G : List AK), (∀ g ∈ G, FlatOk N g.t' g.p) → P.length + lens (G.map AK.p) + G.length ≤ 900 → FlatOk (N + 1000 * G.length) (wrapT (G.map (nmG u)) (G.map AK.t') T) (wrapP (G.map (nmG u)) (G.map AK.p) P)
  | [], _, _ => h0
  | g :: G, h, hl => by
    simp only [List.map_cons, lens, List.length_cons] at hl
    have ih := wrap_flat u h0 G (fun y hy => h y (by simp [hy])) (by omega)
    have hw := wrapP_len (G.map (nmG u)) (G.map AK.p) P (by simp)
    simp only [List.length_map] at hw
    have := flat_node (N := N + 1000 * G.length) (gs := [(g.t', g.p), (wrapT (G.map (nmG u)) (G.map AK.t') T, wrapP (G.map (nmG u)) (G.map AK.p) P)]) (fun y hy => by
      simp at hy
      rcases hy with rfl | rfl
      · exact (h g (by simp)).up (by omega)
      · exact ih) (letN (nmG u g)) ar5 (by simp [lens]; omega)
    simp only [List.map_cons, List.map_nil] at this
    exact this.up (by simp only [List.length_cons]; omega)
theorem wrap_gp (u : List ByteArray) {P : List Nd} (h0 : GP P) (f0 : shiftL 0 P = P) : ∀ (G : List AK), (∀ g ∈ G, GP g.p ∧ nextU u g.b < 700) → P.length + lens (G.map AK.p) + G.length ≤ 900 → GP (wrapP (G.map (nmG u)) (G.map AK.p) P) ∧ shiftL 0 (wrapP (G.map (nmG u)) (G.map AK.p) P) = wrapP (G.map (nmG u)) (G.map AK.p) P
  | [], _, _ => ⟨h0, f0⟩
  | g :: G, h, hl => by
    simp only [List.map_cons, lens, List.length_cons] at hl
    obtain ⟨ih, -⟩ := wrap_gp u h0 f0 G (fun y hy => h y (by simp [hy])) (by omega)
    have hw := wrapP_len (G.map (nmG u)) (G.map AK.p) P (by simp)
    simp only [List.length_map] at hw
    have hg := h g (by simp)
    refine ⟨gp_make (let_head hg.2) ⟨rfl, rfl, rfl⟩ ar5 (fun p hp => ?_) (by simp [lens]; omega), make_fix _ _ ar5 (by simp)⟩
    simp at hp
    rcases hp with rfl | rfl
    · exact hg.1
    · exact ih
theorem ok_fieldsA {l : List Nd} (h : nodesOkB l = true) (x : Nat) (hx : x < l.length) : fieldsB (nd l x) = true := by
  obtain ⟨_, _, ss, _, _, q⟩ := ok_all h
  rw [nd_get l x hx]; exact (q x hx).1
/-- The kids of a node rise. -/
theorem kid_inc {t ks : List Int} {N : Nat} (hs : StN t N) (j : Nat) : ∀ (a b : Int), 0 ≤ a → a ≤ N → down t ks j a = some b → ∀ m m', m < m' → m' < j → rd ks (m : Int) < rd ks (m' : Int) := by
  induction j with
  | zero => intro a b _ _ _ m m' _ h; omega
  | succ j ih =>
    intro a b h0 h1 h m m' hm hm'
    rw [down_s] at h
    split at h
    case isFalse => cases h
    rename_i hc
    have hle : rd t (a - 1) ≤ a - 1 ∧ 0 ≤ rd t (a - 1) := by
      have := hs.2 (a - 1).toNat (by omega)
      rw [← rd_nat, show (((a - 1).toNat : Nat) : Int) = a - 1 by omega] at this
      exact ⟨this.2, this.1⟩
    by_cases e : m' = j
    · subst e
      have := down_kids hs m' _ _ hle.2 (by omega) h m hm
      omega
    · exact ih _ _ hle.2 (by omega) h m m' hm (by omega)
theorem has_take {l : List Nd} (h : nodesOkB l = true) (x : Nat) (hx : x < l.length) (ah i : Nat) (hi : i < arityN (nd l x).Kind) (K : Nat) (hK : 10 ≤ K) : spec_l4Has.f K ((kids (nd l x)).take ah) (rd (kids (nd l x)) (i : Int)) = some (decide (i < ah)) := by
  obtain ⟨_, hst, hd⟩ := startsL_ok h
  have hinc := kid_inc hst _ _ _ (by omega) (by omega) (hd x hx)
  have har := arity_le (nd l x).Kind
  have hl : ((kids (nd l x)).take ah).length ≤ 3 := by rw [List.length_take, kids_len]; omega
  have hle : ((kids (nd l x)).take ah).length = min ah (arityN (nd l x).Kind) := by rw [List.length_take, kids_len]
  have hrd : ∀ m : Nat, m < ah → rd ((kids (nd l x)).take ah) (m : Int) = rd (kids (nd l x)) (m : Int) := fun m hm => by
    unfold rd; simp [List.getD, List.getElem?_take, hm]
  unfold spec_l4Has.f
  simp only [jn]
  rw [show (0 : Int) = ((0 : Nat) : Int) from rfl, spec_has_l0 _ _ hl K ((kids (nd l x)).take ah).length K 0 (by omega) (by omega)]
  by_cases hia : i < ah
  · have : hasFrom ((kids (nd l x)).take ah) (rd (kids (nd l x)) (i : Int)) ((kids (nd l x)).take ah).length 0 = true := (hasFrom_iff _ _ _ _).2 ⟨i, by omega, by rw [hle]; omega, hrd i hia⟩
    rw [if_pos this, decide_eq_true hia]; rfl
  · have : ¬ hasFrom ((kids (nd l x)).take ah) (rd (kids (nd l x)) (i : Int)) ((kids (nd l x)).take ah).length 0 = true := fun hh => by
      obtain ⟨m, h1, h2, h3⟩ := (hasFrom_iff _ _ _ _).1 hh
      rw [hle] at h2
      rw [hrd m (by omega)] at h3
      have := hinc m i (by omega) hi
      omega
    rw [if_neg this, decide_eq_false hia]; rfl
end Go.Proofs.YtfkanjgfjejgiaaGreatDoorE

namespace Go.Proofs.YtfkanjgfjejgiaaGreatDoorE
open Go.Ev Go.RowKit
set_option linter.unusedVariables false
set_option linter.unusedSimpArgs false
theorem len3 {α : Type} {gs : List α} (h : gs.length ≤ 3) : gs = [] ∨ (∃ a, gs = [a]) ∨ (∃ a b, gs = [a, b]) ∨ ∃ a b c, gs = [a, b, c] := by
  match gs, h with
  | [], _ => exact .inl rfl
  | [a], _ => exact .inr (.inl ⟨a, rfl⟩)
  | [a, b], _ => exact .inr (.inr (.inl ⟨a, b, rfl⟩))
  | [a, b, c], _ => exact .inr (.inr (.inr ⟨a, b, c, rfl⟩))
  | a :: b :: c :: d :: r, h => simp at h
theorem anf_node {l : List Nd} (hl : l.length ≤ 150) {N : Nat} {gs : List AK} (hA : ∀ g ∈ gs, AOk l N g) (n : Nd) (ha : arityN n.Kind = gs.length) (k : Nat) (hc : Ch (namesL l) (aheadN n.Kind) 0 k gs) {K d : Nat} (hK : N + 3000 ≤ K) (hd : N + 1 ≤ d) :
    impl_namer_anf.r K d ⟨namesL l, (k : Int)⟩ ⟨n, gs.map AK.t⟩ = some (wrapT (allN (namesL l) (aheadN n.Kind) 0 gs) (allLt (aheadN n.Kind) 0 gs) ⟨n, allT (namesL l) (aheadN n.Kind) 0 gs⟩, ⟨namesL l, ((endK (namesL l) (aheadN n.Kind) 0 k gs : Nat) : Int)⟩) := by
  obtain ⟨d, rfl⟩ := succ_of (show 0 < d by omega)
  have al := arity_le n.Kind
  have hnl := namesL_len l
  rw [impl_namer_anf.r, impl_namer_anf.b]
  simp only [jn]
  have q := anf_l0 (impl_namer_anf.r K d) ⟨n, gs.map AK.t⟩ K (by omega) (namesL l) (by omega) gs (fun g hg => ⟨(hA g hg).anf K d (by omega) (by omega), (hA g hg).tk, by have := (hA g hg).mb; omega⟩) K k [] n [] [] [] hc rfl (by omega) (by simp; omega) (by simp; omega) (by simp; omega) (by simp; omega)
  rw [show impl_namer_anf.l0 (impl_namer_anf.r K d) ⟨n, gs.map AK.t⟩ K K 0 ⟨namesL l, (k : Int)⟩ ⟨n, []⟩ [] [] = _ from q]
  simp only [Option.bind_some, List.nil_append, List.length_nil]
  have e1 := allN_G (namesL l) (aheadN n.Kind) 0 gs
  have e2 := allLt_G (aheadN n.Kind) 0 gs
  have e3 := allG_len (aheadN n.Kind) 0 gs
  have l1 : (allN (namesL l) (aheadN n.Kind) 0 gs).length = (allLt (aheadN n.Kind) 0 gs).length := by rw [e1, e2]; simp
  have l2 : (allN (namesL l) (aheadN n.Kind) 0 gs).length ≤ 3 := by rw [e1, List.length_map]; omega
  rw [w64_of (by omega) (by omega), impl_l1 _ _ l1 (by omega) K _ K _ (Nat.le_refl _) (by omega), Option.bind_some, List.take_length, l1, List.take_length]
theorem bare_leaf {n : Nd} (h : fieldsB n = true) (ha : arityN n.Kind = 0) : bare n = n := by
  unfold fieldsB at h
  simp only [Bool.and_eq_true] at h
  have := h.2.2.2.1
  unfold noKids at this
  rw [ha] at this
  simp at this
  obtain ⟨a, b, c⟩ := this
  obtain ⟨kd, x, y, z, v, s, t⟩ := n
  simp only at a b c
  subst a b c
  rfl
theorem part_node {l : List Nd} (hok : nodesOkB l = true) {N : Nat} {gs : List AK} (hA : ∀ g ∈ gs, AOk l N g) (x : Nat) (hx : x < l.length) (hk : kids (nd l x) = gs.map fun g => (g.x : Int)) (k : Nat) (hc : Ch (namesL l) (aheadN (nd l x).Kind) 0 k gs) (hlen : lens (gs.map AK.p) + 2 * gs.length ≤ 800) {K d : Nat} (hK : N + 3000 ≤ K) (hd : N + 1 ≤ d) :
    spec_l13Part.r K d l (x : Int) (k : Int) = some (wrapP (allN (namesL l) (aheadN (nd l x).Kind) 0 gs) (allLp (aheadN (nd l x).Kind) 0 gs) (make (bare (nd l x)) (allP (namesL l) (aheadN (nd l x).Kind) 0 gs)), ((endK (namesL l) (aheadN (nd l x).Kind) 0 k gs : Nat) : Int)) := by
  obtain ⟨d, rfl⟩ := succ_of (show 0 < d by omega)
  have hll := ok_len hok
  have al := arity_le (nd l x).Kind
  have kl := kids_len (nd l x)
  rw [hk, List.length_map] at kl
  have hf := ok_fieldsA hok x hx
  rw [spec_l13Part.r, spec_l13Part.b, at_nd l x hx, Option.bind_some, spec_arity, Option.bind_some]
  by_cases h0 : arityN (nd l x).Kind = 0
  · have hg : gs = [] := List.eq_nil_of_length_eq_zero (by omega)
    subst hg
    rw [if_pos (by omega), bare_leaf hf h0]
    rfl
  rw [if_neg (by omega), spec_args, Option.bind_some, spec_kids, Option.bind_some]
  simp only [jn]
  have q := part_l0 (spec_l13Part.r K d) l hll.2 ((kids (nd l x)).take (aheadN (nd l x).Kind)) (aheadN (nd l x).Kind) K (by omega) gs (fun g hg => ⟨(hA g hg).part K d (by omega) (by omega), (hA g hg).hx, (hA g hg).kd, by have := (hA g hg).mb; omega⟩) K k [] [] [] [] hc (fun i g hg => by
    have hi : i < gs.length := (List.getElem?_eq_some_iff.1 hg).1
    have e : (g.x : Int) = rd (kids (nd l x)) (i : Int) := by
      rw [hk, rd_nat]
      simp [List.getD, hg]
    rw [e, has_take hok x hx _ i (by omega) K (by omega)]
    simp) (by omega) (by simp; omega) (by simp; omega) (by simp; omega) (by simp; omega)
  rw [List.nil_append] at q
  rw [hk] at q ⊢
  rw [show spec_l13Part.l0 (spec_l13Part.r K d) l ((gs.map fun g => (g.x : Int)).take (aheadN (nd l x).Kind)) (gs.map fun g => (g.x : Int)) K K (k : Int) 0 [] [] [] = _ from q]
  simp only [Option.bind_some, List.nil_append, List.length_nil]
  generalize hah : aheadN (nd l x).Kind = ah at hc ⊢
  have eP := allP_TP (namesL l) ah 0 gs
  have lP : (allP (namesL l) ah 0 gs).length = gs.length := by rw [eP, List.length_map, allTP_len]
  have eN := allN_G (namesL l) ah 0 gs
  have eL := allLp_G ah 0 gs
  have l3 := allG_len ah 0 gs
  have hsum := all_lens (namesL l) ah 0 gs
  rw [← eP, ← eL] at hsum
  have l1 : (allN (namesL l) ah 0 gs).length = (allLp ah 0 gs).length := by rw [eN, eL]; simp
  have l2 : (allLp ah 0 gs).length = (allG ah 0 gs).length := by rw [eL, List.length_map]
  have fin : ((spec_l13Part.l2 (allLp ah 0 gs) (allN (namesL l) ah 0 gs) K K (w64 (((allLp ah 0 gs).length : Int) - 1)) (make (bare (nd l x)) (allP (namesL l) ah 0 gs))).bind fun v71 => some (v71, ((endK (namesL l) ah 0 k gs : Nat) : Int))) = some (wrapP (allN (namesL l) ah 0 gs) (allLp ah 0 gs) (make (bare (nd l x)) (allP (namesL l) ah 0 gs)), ((endK (namesL l) ah 0 k gs : Nat) : Int)) := by
    rw [w64_of (by omega) (by omega), ← l1, spec_l2 _ _ l1 (by omega) K (by omega) _ K _ (Nat.le_refl _) (by omega) (by rw [make_len, l1, List.take_length]; omega), Option.bind_some, List.take_length, l1, List.take_length]
  have mk : ∀ ps : List (List Nd), ps = allP (namesL l) ah 0 gs → spec_l3Make.f K (bare (nd l x)) ps = some (make (bare (nd l x)) (allP (namesL l) ah 0 gs)) := by
    rintro ps rfl
    exact l3Make_f _ _ K (by omega) (by omega) (by omega)
  generalize hP : allP (namesL l) ah 0 gs = P at lP mk fin
  have hP3 : P.length ≤ 3 := by omega
  rcases len3 hP3 with rfl | ⟨p1, rfl⟩ | ⟨p1, p2, rfl⟩ | ⟨p1, p2, p3, rfl⟩
  · simp at lP; omega
  · rw [if_pos (by simp), show at_ [p1] 0 = some p1 from rfl, Option.bind_some]
    show (spec_l3Make.f K (bare (nd l x)) [p1]).bind _ = _
    rw [mk [p1] rfl, Option.bind_some]
    exact fin
  · rw [if_neg (by simp), if_pos (by simp), show at_ [p1, p2] 0 = some p1 from rfl, show at_ [p1, p2] 1 = some p2 from rfl, Option.bind_some, Option.bind_some]
    show (spec_l3Make.f K (bare (nd l x)) [p1, p2]).bind _ = _
    rw [mk [p1, p2] rfl, Option.bind_some]
    exact fin
  · rw [if_neg (by simp), if_neg (by simp), show at_ [p1, p2, p3] 0 = some p1 from rfl, show at_ [p1, p2, p3] 1 = some p2 from rfl, show at_ [p1, p2, p3] 2 = some p3 from rfl, Option.bind_some, Option.bind_some, Option.bind_some]
    show (spec_l3Make.f K (bare (nd l x)) [p1, p2, p3]).bind _ = _
    rw [mk [p1, p2, p3] rfl, Option.bind_some]
    exact fin
/-! ### the induction -/
def GoodA (l : List Nd) (x m : Nat) : Prop := ∀ a, a + phi (namesL l) a + m ≤ 460 → ∃ N g, g.x = x ∧ g.a = a ∧ AOk l N g ∧ g.b + phi (namesL l) g.b + 1 ≤ a + phi (namesL l) a + m ∧ g.p.length + 2 ≤ 3 * m
def sumM : List (Nat × Nat) → Nat
  | [] => 0
  | y :: ks => y.2 + sumM ks
theorem goodsA (l : List Nd) (ah : Nat) : ∀ (ks : List (Nat × Nat)) (i k : Nat), (∀ y ∈ ks, GoodA l y.1 y.2) → k + phi (namesL l) k + sumM ks ≤ 460 →
    ∃ N gs, gs.map AK.x = ks.map Prod.fst ∧ (∀ g ∈ gs, AOk l N g) ∧ Ch (namesL l) ah i k gs ∧ endK (namesL l) ah i k gs + phi (namesL l) (endK (namesL l) ah i k gs) ≤ k + phi (namesL l) k + sumM ks ∧ lens (gs.map AK.p) + 2 * gs.length ≤ 3 * sumM ks ∧ ∀ g ∈ gs, g.b + phi (namesL l) g.b ≤ 460
  | [], i, k, _, h => ⟨0, [], rfl, fun g hg => (by cases hg), trivial, by simp [endK, sumM], by simp [lens, sumM], fun g hg => (by cases hg)⟩
  | y :: ks, i, k, hy, h => by
    simp only [sumM] at h
    obtain ⟨M, g, e1, e2, hg, h1, h2⟩ := hy y (by simp) k (by omega)
    have hst : stC (namesL l) ah i g + phi (namesL l) (stC (namesL l) ah i g) ≤ k + phi (namesL l) k + y.2 := by
      unfold stC
      split
      · have := nextU_ok (namesL l) g.b (by omega)
        omega
      · omega
    obtain ⟨N, gs, f1, f2, f3, f4, f5, f6⟩ := goodsA l ah ks (i + 1) (stC (namesL l) ah i g) (fun z hz => hy z (by simp [hz])) (by omega)
    refine ⟨N + M, g :: gs, by simp [e1, f1], fun z hz => ?_, ⟨e2, f3⟩, ?_, ?_, fun z hz => ?_⟩
    · cases hz with
      | head => exact hg.up (by omega)
      | tail _ hz => exact (f2 z hz).up (by omega)
    · simp only [endK, sumM]; omega
    · simp only [List.map_cons, lens, List.length_cons, sumM]; omega
    · cases hz with
      | head => omega
      | tail _ hz => exact f6 z hz
theorem good_nodeA {l : List Nd} (hok : nodesOkB l = true) (x : Nat) (hx : x < l.length) (ks : List (Nat × Nat)) (hk : kids (nd l x) = ks.map fun y => (y.1 : Int)) (h : ∀ y ∈ ks, GoodA l y.1 y.2) (hs : sumM ks ≤ 150) : GoodA l x (sumM ks + 1) := by
  intro a hm
  have hll := ok_len hok
  obtain ⟨N, gs, e, hA, hc, hend, hlen, hb⟩ := goodsA l (aheadN (nd l x).Kind) ks 0 a h (by omega)
  have hk2 : kids (nd l x) = gs.map fun g => (g.x : Int) := by
    rw [hk]
    have : (ks.map fun y => (y.1 : Int)) = (ks.map Prod.fst).map fun z : Nat => (z : Int) := by simp [List.map_map, Function.comp_def]
    rw [this, ← e]
    simp [List.map_map, Function.comp_def]
  have kl := kids_len (nd l x)
  rw [hk2, List.length_map] at kl
  have al := arity_le (nd l x).Kind
  have kb : arityN (bare (nd l x)).Kind = gs.length := kl.symm
  have hf := ok_fieldsA hok x hx
  generalize hah : aheadN (nd l x).Kind = ah at hc hend
  have hsum := all_lens (namesL l) ah 0 gs
  have l3 := allG_len ah 0 gs
  have lTP := allTP_len (namesL l) ah 0 gs
  -- the parts
  have hTP : ∀ y ∈ allTP (namesL l) ah 0 gs, FlatOk (N + 1000) y.1 y.2 ∧ GP y.2 := by
    have : ∀ (i : Nat) (gs : List AK), (∀ g ∈ gs, AOk l N g) → ∀ y ∈ allTP (namesL l) ah i gs, FlatOk (N + 1000) y.1 y.2 ∧ GP y.2 := by
      intro i gs
      induction gs generalizing i with
      | nil => intro _ y hy; simp [allTP] at hy
      | cons g gs ih =>
        intro hA y hy
        simp only [allTP, List.mem_cons] at hy
        rcases hy with rfl | hy
        · have hg := hA g (by simp)
          simp only
          unfold stT stP
          split
          · have hnx := nextU_ok (namesL l) g.b (by have := hg.mb; omega)
            exact ⟨(var_flat _).up (by omega), gp_leaf (var_fields (by have := hg.mb; omega)) ar1⟩
          · exact ⟨hg.flat.up (by omega), hg.gp⟩
        · exact ih (i + 1) (fun z hz => hA z (by simp [hz])) y hy
    exact this 0 gs hA
  have hM : FlatOk (N + 2000) ⟨bare (nd l x), allT (namesL l) ah 0 gs⟩ (make (bare (nd l x)) (allP (namesL l) ah 0 gs)) := by
    rw [allT_TP, allP_TP]
    exact (flat_node (fun y hy => (hTP y hy).1) (bare (nd l x)) (by rw [lTP]; exact kb) (by omega)).up (by omega)
  have hG : GP (make (bare (nd l x)) (allP (namesL l) ah 0 gs)) := by
    rw [allP_TP]
    refine gp_make (head_same (fields_head hf) ⟨rfl, rfl, rfl, rfl⟩) ⟨rfl, rfl, rfl⟩ (by rw [List.length_map, lTP]; exact kb) (fun p hp => ?_) (by omega)
    obtain ⟨y, hy, rfl⟩ := List.mem_map.1 hp
    exact (hTP y hy).2
  have hF : shiftL 0 (make (bare (nd l x)) (allP (namesL l) ah 0 gs)) = make (bare (nd l x)) (allP (namesL l) ah 0 gs) := by
    rw [allP_TP]
    exact make_fix _ _ (by rw [List.length_map, lTP]; exact kb) (by rw [List.length_map, lTP]; omega)
  have ml : (make (bare (nd l x)) (allP (namesL l) ah 0 gs)).length = lens ((allTP (namesL l) ah 0 gs).map Prod.snd) + 1 := by rw [make_len, allP_TP]
  have hwl := wrapP_len ((allG ah 0 gs).map (nmG (namesL l))) ((allG ah 0 gs).map AK.p) (make (bare (nd l x)) (allP (namesL l) ah 0 gs)) (by simp)
  rw [List.length_map, ml] at hwl
  have hW := wrap_flat (namesL l) hM (allG ah 0 gs) (fun g hg => ((hA g (allG_mem ah 0 gs g hg)).flat).up (by omega)) (by rw [ml]; omega)
  obtain ⟨hW2, hW3⟩ := wrap_gp (namesL l) hG hF (allG ah 0 gs) (fun g hg => ⟨(hA g (allG_mem ah 0 gs g hg)).gp, by
    have := hb g (allG_mem ah 0 gs g hg)
    have := nextU_ok (namesL l) g.b (by omega)
    omega⟩) (by rw [ml]; omega)
  rw [← allN_G, ← allLt_G, ← allLp_G] at hW
  rw [← allN_G, ← allLp_G] at hW2 hW3
  rw [← allN_G, ← allLp_G] at hwl
  refine ⟨N + 9000, ⟨x, (nd l x).Kind, ⟨bare (nd l x), gs.map AK.t⟩, wrapT (allN (namesL l) ah 0 gs) (allLt ah 0 gs) ⟨bare (nd l x), allT (namesL l) ah 0 gs⟩, wrapP (allN (namesL l) ah 0 gs) (allLp ah 0 gs) (make (bare (nd l x)) (allP (namesL l) ah 0 gs)), a, endK (namesL l) ah 0 a gs⟩, rfl, rfl, ?_, ?_, ?_⟩
  · refine ⟨hx, rfl, rfl, fun K d hK hd => tree_node (fun g hg => (hA g hg).tree) x hx hk2 (by omega) (by omega), fun K d hK hd => ?_, fun K d hK hd => ?_, hW.up (by omega), hW2, hW3, by simp only; omega⟩
    · have := anf_node (by omega) hA (bare (nd l x)) kb a (by rw [show (bare (nd l x)).Kind = (nd l x).Kind from rfl, hah]; exact hc) (K := K) (d := d) (by omega) (by omega)
      rw [show (bare (nd l x)).Kind = (nd l x).Kind from rfl, hah] at this
      exact this
    · have := part_node hok hA x hx hk2 a (by rw [hah]; exact hc) (by omega) (K := K) (d := d) (by omega) (by omega)
      rw [hah] at this
      exact this
  · simp only; omega
  · simp only
    have e5 := congrArg lens (allLp_G ah 0 gs)
    rw [hwl]
    omega
end Go.Proofs.YtfkanjgfjejgiaaGreatDoorE
