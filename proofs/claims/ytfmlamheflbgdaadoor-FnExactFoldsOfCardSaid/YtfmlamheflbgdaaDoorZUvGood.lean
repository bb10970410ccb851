/- Folding: every node of a right program folds as the reference says. -/
import Derived.Test.YtfmlamheflbgdaaDoorZUvFold
set_option linter.unusedSimpArgs false
set_option linter.unusedVariables false
namespace Go.Proofs.YtfmlamheflbgdaaDoorE
open Go.Ev
set_option linter.unusedVariables false
theorem at0 {α : Type} (x : α) (r : List α) : at_ (x :: r) 0 = some x := rfl
theorem at1 {α : Type} (x y : α) (r : List α) : at_ (x :: y :: r) 1 = some y := rfl
theorem at2 {α : Type} (x y z : α) (r : List α) : at_ (x :: y :: z :: r) 2 = some z := rfl
def primV (o a b : Int) : Int := if o = 0 then Int.tmod (w64 (a + b)) 65536 else if o = 1 then Int.tmod (w64 (w64 (a - b) + 65536)) 65536 else if o = 2 then (if a < b then 1 else 0) else (if a = b then 1 else 0)
theorem prim_s (K : Nat) (o a b : Int) : spec_l11Prim.f K o a b = some (primV o a b) := by
  unfold spec_l11Prim.f primV
  split
  · rfl
  · split
    · rfl
    · split
      · split <;> rfl
      · split <;> rfl
theorem prim_i (K : Nat) (o a b : Int) : impl_prim.f K o a b = some (primV o a b) := by
  unfold impl_prim.f primV jn
  split
  · rfl
  · split
    · rfl
    · split
      · by_cases h : a < b <;> simp [h]
      · by_cases h : a = b <;> simp [h]
def litN (v : Int) : Nd := ⟨2, 0, 0, 0, v, ⟨#[]⟩, ⟨#[]⟩⟩
theorem ar2 : arityN 2 = 0 := by decide
theorem ar7 : arityN 7 = 3 := by decide
theorem ar8 : arityN 8 = 2 := by decide
theorem ar12 : arityN 12 = 0 := by decide
theorem ar14 : arityN 14 = 3 := by decide
/-- What becomes of a node whose kids are folded. -/
def endT (n : Nd) : List Kd → impl_tree
  | [a, b] => if n.Kind = 8 ∧ a.t'.n.Kind = 2 ∧ b.t'.n.Kind = 2 then ⟨litN (primV n.N a.t'.n.N b.t'.n.N), []⟩ else ⟨n, [a.t', b.t']⟩
  | [a, b, c] => if n.Kind = 7 ∧ a.t'.n.Kind = 2 then (if a.t'.n.N = 0 then c.t' else b.t') else if n.Kind = 14 ∧ a.t'.n.Kind = 12 then b.t' else ⟨n, [a.t', b.t', c.t']⟩
  | gs => ⟨n, gs.map Kd.t'⟩
def endP (n : Nd) : List Kd → List Nd
  | [a, b] => if n.Kind = 8 ∧ a.t'.n.Kind = 2 ∧ b.t'.n.Kind = 2 then [litN (primV n.N a.t'.n.N b.t'.n.N)] else make n [a.p, b.p]
  | [a, b, c] => if n.Kind = 7 ∧ a.t'.n.Kind = 2 then (if a.t'.n.N = 0 then c.p else b.p) else if n.Kind = 14 ∧ a.t'.n.Kind = 12 then b.p else make n [a.p, b.p, c.p]
  | gs => make n (gs.map Kd.p)
def endC (n : Nd) : List Kd → Int
  | [a, b] => if n.Kind = 8 ∧ a.t'.n.Kind = 2 ∧ b.t'.n.Kind = 2 then 1 else 0
  | [a, b, c] => if n.Kind = 7 ∧ a.t'.n.Kind = 2 then 1 else if n.Kind = 14 ∧ a.t'.n.Kind = 12 then 1 else 0
  | gs => 0
theorem endC_le (n : Nd) (gs : List Kd) : 0 ≤ endC n gs ∧ endC n gs ≤ 1 := by
  unfold endC
  split
  · split <;> omega
  · split
    · omega
    · split <;> omega
  · omega
theorem len3 {gs : List Kd} (h : gs.length ≤ 3) : gs = [] ∨ (∃ a, gs = [a]) ∨ (∃ a b, gs = [a, b]) ∨ ∃ a b c, gs = [a, b, c] := by
  match gs, h with
  | [], _ => exact .inl rfl
  | [a], _ => exact .inr (.inl ⟨a, rfl⟩)
  | [a, b], _ => exact .inr (.inr (.inl ⟨a, b, rfl⟩))
  | [a, b, c], _ => exact .inr (.inr (.inr ⟨a, b, c, rfl⟩))
  | _ :: _ :: _ :: _ :: _, h => simp at h
theorem fold_node {l : List Nd} {N : Nat} {gs : List Kd} (h : ∀ g ∈ gs, KOk l N g) (n : Nd) (ha : arityN n.Kind = gs.length) {K d : Nat} (hK : N + 1000 ≤ K) (hd : N + 1 ≤ d) {s : Int} (h0 : 0 ≤ s) (hs : s + sumC gs ≤ 1000000) :
    impl_folder_fold.r K d ⟨s⟩ ⟨n, gs.map Kd.t⟩ = some (endT n gs, ⟨s + (sumC gs + endC n gs)⟩) := by
  obtain ⟨d, rfl⟩ := succ_of (show N < d by omega)
  have al := arity_le n.Kind
  have sc := sumC0 h
  rw [impl_folder_fold.r, impl_folder_fold.b, jn]
  have q := fold_l0 (impl_folder_fold.r K d) ⟨n, gs.map Kd.t⟩ K gs (fun g hg => ⟨(h g hg).c0, (h g hg).fold K d (by omega) (by omega)⟩) K [] s ⟨n, []⟩ rfl (by omega) (by simp; omega) (by simp; omega) h0 (by omega)
  rw [show impl_folder_fold.l0 (impl_folder_fold.r K d) ⟨n, gs.map Kd.t⟩ K K 0 ⟨s⟩ ⟨n, []⟩ = _ from q, List.nil_append]
  have e1 : w64 (s + sumC gs + 1) = s + sumC gs + 1 := w64_of (by omega) (by omega)
  simp only [Option.bind_some, List.length_nil]
  rcases len3 (gs := gs) (by omega) with rfl | ⟨a, rfl⟩ | ⟨a, b, rfl⟩ | ⟨a, b, c, rfl⟩
  · have h8 : n.Kind ≠ 8 := fun e => by rw [e, ar8] at ha; simp at ha
    have h7 : n.Kind ≠ 7 := fun e => by rw [e, ar7] at ha; simp at ha
    have h14 : n.Kind ≠ 14 := fun e => by rw [e, ar14] at ha; simp at ha
    simp [jn, h8, h7, h14, endT, endC]
  · have h8 : n.Kind ≠ 8 := fun e => by rw [e, ar8] at ha; simp at ha
    have h7 : n.Kind ≠ 7 := fun e => by rw [e, ar7] at ha; simp at ha
    have h14 : n.Kind ≠ 14 := fun e => by rw [e, ar14] at ha; simp at ha
    simp [jn, h8, h7, h14, endT, endC]
  · have h7 : n.Kind ≠ 7 := fun e => by rw [e, ar7] at ha; simp at ha
    have h14 : n.Kind ≠ 14 := fun e => by rw [e, ar14] at ha; simp at ha
    simp only [jn, h7, h14, if_false, List.map_cons, List.map_nil, at0, at1, Option.bind_some, prim_i, e1, endT, endC]
    by_cases h8 : n.Kind = 8
    · by_cases k1 : a.t'.n.Kind = 2
      · by_cases k2 : b.t'.n.Kind = 2
        · simp [h8, k1, k2, litN, Int.add_assoc]
        · simp [h8, k1, k2]
      · simp [h8, k1]
    · simp [h8]
  · have h8 : n.Kind ≠ 8 := fun e => by rw [e, ar8] at ha; simp at ha
    simp only [jn, h8, if_false, List.map_cons, List.map_nil, at0, at1, at2, Option.bind_some, e1, endT, endC]
    by_cases h7 : n.Kind = 7
    · have h14 : n.Kind ≠ 14 := by omega
      by_cases k1 : a.t'.n.Kind = 2
      · by_cases k2 : a.t'.n.N = 0
        · simp [h7, k1, k2, Int.add_assoc]
        · simp [h7, k1, k2, Int.add_assoc]
      · simp [h7, k1]
    · by_cases h14 : n.Kind = 14
      · by_cases k1 : a.t'.n.Kind = 12
        · simp [h14, k1, Int.add_assoc]
        · simp [h14, k1]
      · simp [h7, h14]
theorem Sh.head {t : impl_tree} {p : List Nd} (h : Sh t p) : ∃ y r, p = y :: r ∧ ((r = [] ∧ y = t.n ∧ arityN t.n.Kind = 0) ∨ (r ≠ [] ∧ arityN t.n.Kind ≠ 0)) := by
  rcases h with ⟨rfl, h⟩ | ⟨h, k⟩
  · exact ⟨_, [], rfl, .inl ⟨rfl, rfl, h⟩⟩
  · match p, h with
    | y :: z :: r, _ => exact ⟨y, z :: r, rfl, .inr ⟨by simp, k⟩⟩
theorem part_node {l : List Nd} {N : Nat} {gs : List Kd} (h : ∀ g ∈ gs, KOk l N g) (x : Nat) (hx : x < l.length) (hk : kids l[x] = gs.map Kd.x) (hl : lens (gs.map Kd.p) < 1000) (hs : sumC gs + 1 ≤ 1000000) {K d : Nat} (hK : N + 1000 ≤ K) (hd : N + 1 ≤ d) :
    spec_l14Part.r K d l (x : Int) = some (endP (bare l[x]) gs, sumC gs + endC (bare l[x]) gs) := by
  obtain ⟨d, rfl⟩ := succ_of (show N < d by omega)
  have al := arity_le l[x].Kind
  have kl := kids_len l[x]
  have sc := sumC0 h
  rw [hk, List.length_map] at kl
  rw [spec_l14Part.r, spec_l14Part.b, at_in l x hx, Option.bind_some, spec_kids, Option.bind_some, hk, jn]
  have q := part_l0 (spec_l14Part.r K d) l K gs (fun g hg => ⟨(h g hg).part K d (by omega) (by omega), (h g hg).c0⟩) K [] 0 [] (by omega) (by simp; omega) (by simp; omega) (by omega) (by omega)
  rw [List.nil_append] at q
  rw [show spec_l14Part.l0 (spec_l14Part.r K d) l (gs.map Kd.x) K K 0 0 [] = _ from q]
  have e1 : w64 (sumC gs + 1) = sumC gs + 1 := w64_of (by omega) (by omega)
  have mk := l3Make_f (bare l[x]) (gs.map Kd.p) K (by omega) (by simp; omega) hl
  simp only [Option.bind_some, List.nil_append, Int.zero_add]
  have hb : (⟨l[x].Kind, 0, 0, 0, l[x].N, l[x].Name, l[x].Other⟩ : Nd) = bare l[x] := rfl
  have kb : (bare l[x]).Kind = l[x].Kind := rfl
  have nb : (bare l[x]).N = l[x].N := rfl
  simp only [hb]
  generalize l[x].Kind = kd at *
  rcases len3 (gs := gs) (by omega) with rfl | ⟨a, rfl⟩ | ⟨a, b, rfl⟩ | ⟨a, b, c, rfl⟩
  · simp [endP, endC, make, glue, sumC]
  · simp only [List.map_cons, List.map_nil] at mk
    simp [endP, endC, at0, mk]
  · simp only [List.map_cons, List.map_nil] at mk
    simp only [List.map_cons, List.map_nil, lens] at hl
    obtain ⟨y, r, hp, ya⟩ := (h a (by simp)).sh.head
    obtain ⟨z, r', hp', za⟩ := (h b (by simp)).sh.head
    have h7 : kd ≠ 7 := fun e => by rw [e, ar7] at kl; simp at kl
    have h14 : kd ≠ 14 := fun e => by rw [e, ar14] at kl; simp at kl
    rw [hp, hp'] at mk
    rw [hp, hp'] at hl
    simp only [List.length_cons] at hl
    have e2 : w64 (((y :: r).length : Int) + ((z :: r').length : Int)) = ((y :: r).length : Int) + ((z :: r').length : Int) := w64_of (by simp; omega) (by simp; omega)
    simp only [jn, List.map_cons, List.map_nil, hp, hp', at0, at1, Option.bind_some, e1, e2, mk, endP, endC, kb, nb, prim_s]
    by_cases h8 : kd = 8
    · rcases ya with ⟨rfl, rfl, ya⟩ | ⟨yr, ya⟩
      · rcases za with ⟨rfl, rfl, za⟩ | ⟨zr, za⟩
        · by_cases k1 : a.t'.n.Kind = 2
          · by_cases k2 : b.t'.n.Kind = 2
            · simp [h8, k1, k2, spec_l3Int.f, litN]
            · simp [h8, k1, k2]
          · simp [h8, k1]
        · have k2 : b.t'.n.Kind ≠ 2 := fun e => za (by rw [e]; exact ar2)
          have : ((r'.length : Int) + 1 ≠ 1) := fun e => zr (List.length_eq_zero_iff.1 (by omega))
          have t3 : ¬ ((1 : Int) + ((r'.length : Int) + 1) = 2) := by omega
          by_cases k1 : a.t'.n.Kind = 2
          · by_cases k3 : z.Kind = 2
            · simp [h8, k1, k2, k3, t3]
            · simp [h8, k1, k2, k3]
          · simp [h8, k1]
      · have k1 : a.t'.n.Kind ≠ 2 := fun e => ya (by rw [e]; exact ar2)
        have : 0 < r.length := by cases r with
          | nil => exact absurd rfl yr
          | cons _ _ => simp
        have t3 : ¬ ((r.length : Int) + 1 + ((r'.length : Int) + 1) = 2) := by omega
        by_cases k2 : y.Kind = 2
        · by_cases k3 : z.Kind = 2
          · simp [h8, k1, k2, k3, t3]
          · simp [h8, k1, k2, k3]
        · simp [h8, k1, k2]
    · simp [h8]
  · simp only [List.map_cons, List.map_nil] at mk
    obtain ⟨y, r, hp, ya⟩ := (h a (by simp)).sh.head
    have h8 : kd ≠ 8 := fun e => by rw [e, ar8] at kl; simp at kl
    rw [hp] at mk
    simp only [jn, List.map_cons, List.map_nil, hp, at0, at1, at2, Option.bind_some, e1, mk, endP, endC, kb, nb]
    by_cases h7 : kd = 7
    · have h14 : kd ≠ 14 := by omega
      rcases ya with ⟨rfl, rfl, ya⟩ | ⟨yr, ya⟩
      · by_cases k1 : a.t'.n.Kind = 2
        · by_cases k2 : a.t'.n.N = 0
          · simp [h7, k1, k2]
          · simp [h7, k1, k2]
        · simp [h7, k1]
      · have k1 : a.t'.n.Kind ≠ 2 := fun e => ya (by rw [e]; exact ar2)
        have hr : ¬ ((r.length : Int) + 1 = 1) := fun e => yr (List.length_eq_zero_iff.1 (by omega))
        simp [h7, k1, hr]
    · by_cases h14 : kd = 14
      · rcases ya with ⟨rfl, rfl, ya⟩ | ⟨yr, ya⟩
        · by_cases k1 : a.t'.n.Kind = 12
          · simp [h14, k1]
          · simp [h14, k1]
        · have k1 : a.t'.n.Kind ≠ 12 := fun e => ya (by rw [e]; exact ar12)
          have hr : ¬ ((r.length : Int) + 1 = 1) := fun e => yr (List.length_eq_zero_iff.1 (by omega))
          simp [h14, k1, hr]
      · simp [h7, h14]
end Go.Proofs.YtfmlamheflbgdaaDoorE
