/- Names for what is done ahead: lets put over a node; trees written down. -/
import Derived.Test.YtfkanjgfjejgiaaGreatDoorZUvPar
import Derived.Test.YtfkanjgfjejgiaaGreatDoorZUvFlat
import Derived.Test.YtfkanjgfjejgiaaGreatDoorZUvFr
set_option linter.unusedSimpArgs false
set_option linter.unusedVariables false
namespace Go.Proofs.YtfkanjgfjejgiaaGreatDoorE
open Go.Ev Go.RowKit
set_option linter.unusedVariables false
set_option linter.unusedSimpArgs false
def GP (p : List Nd) : Prop := 1 ≤ p.length ∧ ∃ t, startsGo p [] = some t ∧ rd t ((p.length - 1 : Nat) : Int) = 0
theorem gp_ok {p : List Nd} (h : GP p) : nodesOkB p = decide (p.length ≤ 150) := by
  obtain ⟨h1, t, ht, h0⟩ := h
  unfold nodesOkB inB
  rw [ht]
  rw [rd_nat] at h0
  simp only [h0, decide_true, Bool.and_true]
  by_cases hp : p.length ≤ 150
  · rw [decide_eq_true hp]; simp; omega
  · rw [decide_eq_false hp]; simp; omega
theorem arc (k : Int) : arityN k = 0 ∨ arityN k = 1 ∨ arityN k = 2 ∨ arityN k = 3 := by have := arity_le k; omega
theorem sh_noKids (s : Int) (n : Nd) : noKids (shiftN s n) = noKids n := by
  unfold noKids shiftN
  simp only
  rcases arc n.Kind with h | h | h | h <;> simp [h]
theorem sh_fields (s : Int) (n : Nd) : fieldsB (shiftN s n) = fieldsB n := by
  show (inB n.Kind 1 19 && (fitsB n.Name (decide (0 < namesN n.Kind)) && (fitsB n.Other (decide (1 < namesN n.Kind)) && (noKids (shiftN s n) && restB n)))) = fieldsB n
  rw [sh_noKids]; rfl
def kids3 (n : Nd) : List Int := [n.A, n.B, n.C]
theorem kids_3 (n : Nd) (m : Nat) (h : m < arityN n.Kind) : rd (kids n) (m : Int) = rd (kids3 n) (m : Int) := by
  unfold kids kids3 rd
  simp [List.getD, List.getElem?_take, h]
theorem sh_kid (s : Int) (n : Nd) (m : Nat) (h : m < arityN n.Kind) (h0 : 0 ≤ rd (kids n) (m : Int)) (h1 : rd (kids n) (m : Int) ≤ 2000) (s0 : 0 ≤ s) (s1 : s ≤ 2000) : rd (kids (shiftN s n)) (m : Int) = rd (kids n) (m : Int) + s := by
  have ha := arity_le n.Kind
  have e : rd (kids (shiftN s n)) (m : Int) = rd (kids3 (shiftN s n)) (m : Int) := kids_3 (shiftN s n) m h
  rw [kids_3 n m h] at h0 h1 ⊢
  rw [e]
  have hm : m = 0 ∨ m = 1 ∨ m = 2 := by omega
  rcases hm with rfl | rfl | rfl
  · have e0 : rd (kids3 n) ((0 : Nat) : Int) = n.A := rfl
    rw [e0] at h0 h1 ⊢
    show (if 1 ≤ arityN n.Kind then w64 (n.A + s) else n.A) = n.A + s
    rw [if_pos (by omega), w64_of (by omega) (by omega)]
  · have e0 : rd (kids3 n) ((1 : Nat) : Int) = n.B := rfl
    rw [e0] at h0 h1 ⊢
    show (if 2 ≤ arityN n.Kind then w64 (n.B + s) else n.B) = n.B + s
    rw [if_pos (by omega), w64_of (by omega) (by omega)]
  · have e0 : rd (kids3 n) ((2 : Nat) : Int) = n.C := rfl
    rw [e0] at h0 h1 ⊢
    show (if 3 ≤ arityN n.Kind then w64 (n.C + s) else n.C) = n.C + s
    rw [if_pos (by omega), w64_of (by omega) (by omega)]
theorem down_congr {s ks ks' : List Int} (j : Nat) : ∀ (a : Int), (∀ m, m < j → rd ks (m : Int) = rd ks' (m : Int)) → down s ks j a = down s ks' j a := by
  induction j with
  | zero => intro a _; rfl
  | succ j ih =>
    intro a h
    rw [down_s, down_s, h j (by omega)]
    split
    · exact ih _ fun m hm => h m (by omega)
    · rfl
theorem down_sh {s0 S ks ks' : List Int} {N o : Nat} (ht : StN s0 N) (e : ∀ x : Nat, x < N → rd S ((x + o : Nat) : Int) = rd s0 (x : Int) + o) (j : Nat) : ∀ (a b : Int), 0 ≤ a → a ≤ N → (∀ m, m < j → rd ks' (m : Int) = rd ks (m : Int) + o) →
    down s0 ks j a = some b → down S ks' j (a + o) = some (b + o) := by
  induction j with
  | zero => intro a b _ _ _ h; rw [down_z] at h ⊢; cases h; rfl
  | succ j ih =>
    intro a b h0 h1 hk h
    rw [down_s] at h ⊢
    split at h
    · rename_i hc
      have hle : rd s0 (a - 1) ≤ a - 1 ∧ 0 ≤ rd s0 (a - 1) := by
        have := ht.2 (a - 1).toNat (by omega)
        rw [← rd_nat, show (((a - 1).toNat : Nat) : Int) = a - 1 by omega] at this
        exact ⟨this.2, this.1⟩
      rw [if_pos ⟨by rw [hk j (by omega)]; omega, by omega⟩]
      have e1 : rd S (a + o - 1) = rd s0 (a - 1) + o := by
        have := e (a - 1).toNat (by omega)
        rw [show (((a - 1).toNat : Nat) : Int) = a - 1 by omega, show (((a - 1).toNat + o : Nat) : Int) = a + o - 1 by omega] at this
        exact this
      rw [e1]
      exact ih _ _ hle.2 (by omega) (fun m hm => hk m (by omega)) h
    · cases h
theorem rd_left (s u : List Int) (x : Nat) (h : x < s.length) : rd (s ++ u) (x : Int) = rd s (x : Int) := by rw [rd_nat, rd_nat]; exact getD_left _ _ _ _ h
theorem rd_right (s u : List Int) (x : Nat) : rd (s ++ u) ((x + s.length : Nat) : Int) = rd u (x : Int) := by
  rw [rd_nat, rd_nat, getD_right _ _ _ _ (by omega), Nat.add_sub_cancel]
theorem rd_mapA (s : List Int) (o : Int) (x : Nat) (h : x < s.length) : rd (s.map (· + o)) (x : Int) = rd s (x : Int) + o := by simp [rd, List.getD, h]
theorem go_sh (o : Nat) (ho : o ≤ 1000) : ∀ (p : List Nd) (s0 t : List Int), Starts s0 → s0.length + p.length ≤ 1000 → startsGo p s0 = some t → ∀ (ss : List Int) (r : List Nd), ss.length = o → startsGo (shiftL o p ++ r) (ss ++ s0.map (· + (o : Int))) = startsGo r (ss ++ t.map (· + (o : Int))) := by
  intro p
  induction p with
  | nil => intro s0 t _ _ h ss r _; rw [startsGo] at h; cases h; rfl
  | cons n p ih =>
    intro s0 t hs hl h ss r hss
    simp only [List.length_cons] at hl
    rw [startsGo] at h
    split at h
    case isFalse => cases h
    rename_i hf
    cases hd : down s0 (kids n) (arityN n.Kind) (s0.length : Int) with
    | none => rw [hd] at h; cases h
    | some a =>
      rw [hd] at h
      replace h : startsGo p (s0 ++ [a]) = some t := h
      have hst : StN s0 s0.length := ⟨rfl, hs⟩
      have ha := dn_le hst _ _ _ (by omega) (Int.le_refl _) hd
      have hk := down_kids hst _ _ _ (by omega) (Int.le_refl _) hd
      show startsGo (shiftN o n :: (shiftL o p ++ r)) _ = _
      rw [startsGo, sh_fields, if_pos hf]
      have hd2 := down_sh (S := ss ++ s0.map (· + (o : Int))) (ks' := kids (shiftN o n)) (o := o) hst (fun x hx => by
        have := rd_right ss (s0.map (· + (o : Int))) x
        rw [hss] at this
        rw [this, rd_mapA _ _ _ hx]) (arityN n.Kind) _ _ (by omega) (Int.le_refl _) (fun m hm => sh_kid o n m hm (by have := hk m hm; omega) (by have := hk m hm; omega) (by omega) (by omega)) hd
      have el : ((ss ++ s0.map (· + (o : Int))).length : Int) = (s0.length : Int) + o := by simp [hss]; omega
      have e2 : down (ss ++ s0.map (· + (o : Int))) (kids (shiftN o n)) (arityN (shiftN o n).Kind) ((ss ++ s0.map (· + (o : Int))).length : Int) = some (a + o) := by rw [el]; exact hd2
      rw [e2]
      show startsGo (shiftL o p ++ r) ((ss ++ s0.map (· + (o : Int))) ++ [a + o]) = _
      have := ih (s0 ++ [a]) t (hs.snoc ha.1 ha.2) (by simp; omega) h ss r hss
      rw [List.map_append] at this
      rw [List.append_assoc]
      exact this
theorem go_app : ∀ (a b : List Nd) (s : List Int), startsGo (a ++ b) s = (startsGo a s).bind (startsGo b)
  | [], b, s => rfl
  | n :: a, b, s => by
    show startsGo (n :: (a ++ b)) s = _
    rw [startsGo, startsGo]
    split
    · cases hd : down s (kids n) (arityN n.Kind) (s.length : Int) with
      | none => rfl
      | some x => exact go_app a b (s ++ [x])
    · rfl
/-! ### a node over parts -/
theorem set_get (j m : Nat) (hj : j < 3) (hm : m < 3) (n : Nd) (v : Int) : rd (kids3 (setKid j n v)) (m : Int) = if m = j then v else rd (kids3 n) (m : Int) := by
  have h1 : j = 0 ∨ j = 1 ∨ j = 2 := by omega
  have h2 : m = 0 ∨ m = 1 ∨ m = 2 := by omega
  rcases h1 with rfl | rfl | rfl <;> rcases h2 with rfl | rfl | rfl <;> rfl
theorem glue_get : ∀ (ps : List (List Nd)) (j : Nat) (n : Nd) (o : List Nd) (m : Nat), j + ps.length ≤ 3 → m < 3 → (m < j ∨ j + ps.length ≤ m) → rd (kids3 (glue j n o ps).1) (m : Int) = rd (kids3 n) (m : Int)
  | [], j, n, o, m, _, _, _ => rfl
  | p :: ps, j, n, o, m, h, hm, hmj => by
    simp only [List.length_cons] at h hmj
    rw [glue, glue_get ps (j + 1) _ _ m (by omega) hm (by omega), set_get j m (by omega) hm, if_neg (by omega)]
theorem setKid_same (j : Nat) (n : Nd) (v : Int) : (setKid j n v).Kind = n.Kind ∧ (setKid j n v).N = n.N ∧ (setKid j n v).Name = n.Name ∧ (setKid j n v).Other = n.Other := by
  unfold setKid; split
  · exact ⟨rfl, rfl, rfl, rfl⟩
  · split <;> exact ⟨rfl, rfl, rfl, rfl⟩
theorem glue_same : ∀ (ps : List (List Nd)) (j : Nat) (n : Nd) (o : List Nd), (glue j n o ps).1.Kind = n.Kind ∧ (glue j n o ps).1.N = n.N ∧ (glue j n o ps).1.Name = n.Name ∧ (glue j n o ps).1.Other = n.Other
  | [], j, n, o => ⟨rfl, rfl, rfl, rfl⟩
  | p :: ps, j, n, o => by
    obtain ⟨a, b, c, d⟩ := glue_same ps (j + 1) (setKid j n (w64 ((o.length + p.length : Nat) - 1 : Int))) (o ++ shiftL o.length p)
    obtain ⟨a', b', c', d'⟩ := setKid_same j n (w64 ((o.length + p.length : Nat) - 1 : Int))
    rw [glue]
    exact ⟨a.trans a', b.trans b', c.trans c', d.trans d'⟩
theorem glue_go : ∀ (ps : List (List Nd)) (j : Nat) (n : Nd) (o : List Nd) (s : List Int), startsGo o [] = some s → Starts s → s.length = o.length → j + ps.length ≤ 3 → (∀ p ∈ ps, GP p) → o.length + lens ps ≤ 900 →
    ∃ s' u, startsGo (glue j n o ps).2 [] = some s' ∧ Starts s' ∧ s' = s ++ u ∧ s'.length = (glue j n o ps).2.length ∧ down s' (kids3 (glue j n o ps).1) (j + ps.length) ((glue j n o ps).2.length : Int) = down s' (kids3 (glue j n o ps).1) j (o.length : Int)
  | [], j, n, o, s, h, hs, hl, _, _, _ => ⟨s, [], h, hs, by simp, hl, rfl⟩
  | p :: ps, j, n, o, s, h, hs, hl, hj, hp, hlen => by
    simp only [List.length_cons, lens] at hj hlen
    obtain ⟨p1, t, pt, p0⟩ := hp p (by simp)
    have tl := go_len _ _ _ pt
    simp at tl
    obtain ⟨tS, -, -⟩ := go_all p [] t starts_nil pt
    have e1 : startsGo (o ++ shiftL o.length p) [] = some (s ++ t.map (· + (o.length : Int))) := by
      rw [go_app, h, Option.bind_some]
      have := go_sh o.length (by omega) p [] t starts_nil (by simp; omega) pt s [] hl
      simpa [startsGo] using this
    have s1 : Starts (s ++ t.map (· + (o.length : Int))) := by
      obtain ⟨q, -, -⟩ := go_all _ [] _ starts_nil e1
      exact q
    have l1 : (s ++ t.map (· + (o.length : Int))).length = (o ++ shiftL o.length p).length := by simp [shiftL_len, hl, tl]
    have ol : (o ++ shiftL o.length p).length = o.length + p.length := by simp [shiftL_len]
    obtain ⟨s', u, g1, g2, g3, g4, g5⟩ := glue_go ps (j + 1) (setKid j n (w64 ((o.length + p.length : Nat) - 1 : Int))) (o ++ shiftL o.length p) _ e1 s1 l1 (by omega) (fun q hq => hp q (by simp [hq])) (by rw [ol]; omega)
    have eg : glue j n o (p :: ps) = glue (j + 1) (setKid j n (w64 ((o.length + p.length : Nat) - 1 : Int))) (o ++ shiftL o.length p) ps := by rw [glue]
    rw [eg]
    refine ⟨s', t.map (· + (o.length : Int)) ++ u, g1, g2, by rw [g3, List.append_assoc], g4, ?_⟩
    rw [List.length_cons, show j + (ps.length + 1) = j + 1 + ps.length by omega, g5, down_s]
    have hk := glue_get ps (j + 1) (setKid j n (w64 ((o.length + p.length : Nat) - 1 : Int))) (o ++ shiftL o.length p) j (by omega) (by omega) (by omega)
    rw [set_get j j (by omega) (by omega), if_pos rfl] at hk
    replace hk := hk.trans (w64_of (by omega) (by omega))
    rw [if_pos ⟨by rw [hk, ol], by rw [ol]; omega⟩]
    congr 1
    rw [ol, show ((o.length + p.length : Nat) : Int) - 1 = ((p.length - 1 + s.length : Nat) : Int) by omega, g3, rd_left _ _ _ (by rw [l1, ol]; omega), rd_right, rd_mapA _ _ _ (by omega), p0]
    omega
/-- The fields of a node but its kids. -/
def headB (n : Nd) : Bool := inB n.Kind 1 19 && (fitsB n.Name (decide (0 < namesN n.Kind)) && (fitsB n.Other (decide (1 < namesN n.Kind)) && restB n))
theorem fields_head {n : Nd} (h : fieldsB n = true) : headB n = true := by
  unfold fieldsB at h
  unfold headB
  simp only [Bool.and_eq_true] at h ⊢
  exact ⟨h.1, h.2.1, h.2.2.1, h.2.2.2.2⟩
theorem head_fields {n : Nd} (h : headB n = true) (k : noKids n = true) : fieldsB n = true := by
  unfold headB at h
  unfold fieldsB
  simp only [Bool.and_eq_true] at h ⊢
  exact ⟨h.1, h.2.1, h.2.2.1, k, h.2.2.2⟩
theorem head_same {n m : Nd} (h : headB n = true) (e : m.Kind = n.Kind ∧ m.N = n.N ∧ m.Name = n.Name ∧ m.Other = n.Other) : headB m = true := by
  obtain ⟨a, b, c, d⟩ := e
  unfold headB restB at h ⊢
  rw [a, b, c, d]; exact h
theorem noKids_of {n : Nd} (h : ∀ m, m < 3 → arityN n.Kind ≤ m → rd (kids3 n) (m : Int) = 0) : noKids n = true := by
  have h0 := h 0 (by omega)
  have h1 := h 1 (by omega)
  have h2 := h 2 (by omega)
  have e0 : rd (kids3 n) ((0 : Nat) : Int) = n.A := rfl
  have e1 : rd (kids3 n) ((1 : Nat) : Int) = n.B := rfl
  have e2 : rd (kids3 n) ((2 : Nat) : Int) = n.C := rfl
  rw [e0] at h0; rw [e1] at h1; rw [e2] at h2
  unfold noKids
  rcases arc n.Kind with q | q | q | q <;> rw [q] at h0 h1 h2 ⊢ <;> simp at h0 h1 h2 ⊢ <;> simp [*]
theorem gp_leaf {n : Nd} (h : fieldsB n = true) (ha : arityN n.Kind = 0) : GP [n] := by
  refine ⟨by simp, [0], ?_, rfl⟩
  rw [startsGo, if_pos h, ha]; rfl
/-- A node over parts, its kids' numbers 0 ahead. -/
theorem gp_make {n : Nd} {ps : List (List Nd)} (hh : headB n = true) (hz : n.A = 0 ∧ n.B = 0 ∧ n.C = 0) (ha : arityN n.Kind = ps.length) (hp : ∀ p ∈ ps, GP p) (hl : lens ps ≤ 900) : GP (make n ps) := by
  have h3 := arity_le n.Kind
  obtain ⟨s', u, g1, g2, g3, g4, g5⟩ := glue_go ps 0 n [] [] rfl starts_nil rfl (by omega) hp (by simpa using hl)
  have hs := glue_same ps 0 n []
  have hk : noKids (glue 0 n [] ps).1 = true := noKids_of fun m hm hm2 => by
    rw [hs.1] at hm2
    rw [glue_get ps 0 n [] m (by omega) hm (by omega)]
    have h2 : m = 0 ∨ m = 1 ∨ m = 2 := by omega
    rcases h2 with rfl | rfl | rfl
    · exact hz.1
    · exact hz.2.1
    · exact hz.2.2
  have hf := head_fields (head_same hh hs) hk
  unfold make
  refine ⟨by simp, s' ++ [0], ?_, ?_⟩
  · rw [go_app, g1, Option.bind_some, startsGo, if_pos hf]
    have e : down s' (kids (glue 0 n [] ps).1) (arityN (glue 0 n [] ps).1.Kind) (s'.length : Int) = some 0 := by
      rw [down_congr (ks' := kids3 (glue 0 n [] ps).1) _ _ fun m hm => kids_3 _ m hm, hs.1, ha, g4]
      rw [Nat.zero_add] at g5
      rw [g5]; rfl
    rw [e]; rfl
  · have := rd_right s' [0] 0
    rw [Nat.zero_add, g4] at this
    rw [show (((glue 0 n [] ps).2 ++ [(glue 0 n [] ps).1]).length - 1 : Nat) = (glue 0 n [] ps).2.length by simp]
    rw [this]; rfl
end Go.Proofs.YtfkanjgfjejgiaaGreatDoorE

namespace Go.Proofs.YtfkanjgfjejgiaaGreatDoorE
open Go.Ev Go.RowKit
set_option linter.unusedVariables false
set_option linter.unusedSimpArgs false
/-! ### what is done ahead -/
def aheadN (a : Int) : Nat := if a = 4 ∨ a = 8 ∨ a = 9 ∨ a = 13 ∨ a = 17 then 2 else if a = 10 ∨ a = 11 ∨ a = 15 ∨ a = 16 ∨ a = 18 ∨ a = 7 ∨ a = 14 then 1 else 0
theorem impl_ahead (K : Nat) (a : Int) : impl_aheadOf.f K a = some (aheadN a : Int) := by
  unfold impl_aheadOf.f aheadN
  simp only [jn]
  by_cases h : a = 4 ∨ a = 8 ∨ a = 9 ∨ a = 13 ∨ a = 17 ∨ a = 10 ∨ a = 11 ∨ a = 15 ∨ a = 16 ∨ a = 18 ∨ a = 7 ∨ a = 14
  · rcases h with rfl | rfl | rfl | rfl | rfl | rfl | rfl | rfl | rfl | rfl | rfl | rfl <;> rfl
  · simp only [not_or] at h
    obtain ⟨h1, h2, h3, h4, h5, h6, h7, h8, h9, h10, h11, h12⟩ := h
    simp [h1, h2, h3, h4, h5, h6, h7, h8, h9, h10, h11, h12]
theorem spec_args (K : Nat) (n : Nd) : spec_l13Args.f K n = some ((kids n).take (aheadN n.Kind)) := by
  unfold spec_l13Args.f
  simp only [jn]
  rw [spec_kids, Option.bind_some]
  obtain ⟨a, x, y, z, v, s, t⟩ := n
  by_cases h : a = 4 ∨ a = 8 ∨ a = 9 ∨ a = 13 ∨ a = 17 ∨ a = 10 ∨ a = 11 ∨ a = 15 ∨ a = 16 ∨ a = 18 ∨ a = 7 ∨ a = 14
  · rcases h with rfl | rfl | rfl | rfl | rfl | rfl | rfl | rfl | rfl | rfl | rfl | rfl <;> rfl
  · simp only [not_or] at h
    obtain ⟨h1, h2, h3, h4, h5, h6, h7, h8, h9, h10, h11, h12⟩ := h
    simp [aheadN, h1, h2, h3, h4, h5, h6, h7, h8, h9, h10, h11, h12]
theorem ahead_le (a : Int) : aheadN a ≤ 2 := by
  unfold aheadN; split
  · omega
  · split <;> omega
def atomB (a : Int) : Bool := if a = 1 then true else if a = 2 then true else decide (a = 12)
theorem impl_atom (K : Nat) (n : Nd) : impl_IsAtom.f K n = some (atomB n.Kind) := by
  unfold impl_IsAtom.f atomB
  by_cases h1 : n.Kind = 1
  · rw [if_pos h1, if_pos h1]
  · rw [if_neg h1, if_neg h1]
    by_cases h2 : n.Kind = 2
    · rw [if_pos h2, if_pos h2]
    · rw [if_neg h2, if_neg h2]
theorem spec_atom (K : Nat) (n : Nd) : spec_IsAtom.f K n = some (atomB n.Kind) := impl_atom K n
/-! ### the kids of a node in order -/
structure AK where
  x : Nat
  kd : Int
  t : impl_tree
  t' : impl_tree
  p : List Nd
  a : Nat
  b : Nat
def varN (s : ByteArray) : Nd := ⟨1, 0, 0, 0, 0, s, ⟨#[]⟩⟩
def letN (s : ByteArray) : Nd := ⟨5, 0, 0, 0, 0, s, ⟨#[]⟩⟩
def goes (ah i : Nat) (g : AK) : Bool := decide (i < ah) && !atomB g.kd
section
variable (u : List ByteArray) (ah : Nat)
def stC (i : Nat) (g : AK) : Nat := if goes ah i g = true then nextU u g.b + 1 else g.b
def stN (i : Nat) (g : AK) : List ByteArray := if goes ah i g = true then [freshT (nextU u g.b)] else []
def stT (i : Nat) (g : AK) : impl_tree := if goes ah i g = true then ⟨varN (freshT (nextU u g.b)), []⟩ else g.t'
def stP (i : Nat) (g : AK) : List Nd := if goes ah i g = true then [varN (freshT (nextU u g.b))] else g.p
def stLt (i : Nat) (g : AK) : List impl_tree := if goes ah i g = true then [g.t'] else []
def stLp (i : Nat) (g : AK) : List (List Nd) := if goes ah i g = true then [g.p] else []
def Ch : Nat → Nat → List AK → Prop
  | _, _, [] => True
  | i, k, g :: gs => g.a = k ∧ Ch (i + 1) (stC u ah i g) gs
def endK : Nat → Nat → List AK → Nat
  | _, k, [] => k
  | i, _, g :: gs => endK (i + 1) (stC u ah i g) gs
def allT : Nat → List AK → List impl_tree
  | _, [] => []
  | i, g :: gs => stT u ah i g :: allT (i + 1) gs
def allP : Nat → List AK → List (List Nd)
  | _, [] => []
  | i, g :: gs => stP u ah i g :: allP (i + 1) gs
def allN : Nat → List AK → List ByteArray
  | _, [] => []
  | i, g :: gs => stN u ah i g ++ allN (i + 1) gs
def allLt : Nat → List AK → List impl_tree
  | _, [] => []
  | i, g :: gs => stLt ah i g ++ allLt (i + 1) gs
def allLp : Nat → List AK → List (List Nd)
  | _, [] => []
  | i, g :: gs => stLp ah i g ++ allLp (i + 1) gs
end
theorem anf_l0 (r : impl_namer → impl_tree → Option (impl_tree × impl_namer)) (t : impl_tree) (K : Nat) (hK : 2000 ≤ K) (u : List ByteArray) (hu : u.length ≤ 300) (gs : List AK) : (∀ g ∈ gs, r ⟨u, (g.a : Int)⟩ g.t = some (g.t', ⟨u, (g.b : Int)⟩) ∧ g.t.n.Kind = g.kd ∧ g.b + phi u g.b < 699) →
    ∀ (k kk : Nat) (ys : List impl_tree) (n : Nd) (vk : List impl_tree) (ns : List ByteArray) (lt : List impl_tree), Ch u (aheadN t.n.Kind) ys.length kk gs → t.kids = ys ++ gs.map AK.t → gs.length < k → ys.length + gs.length ≤ 3 → vk.length + gs.length ≤ 100 → ns.length + gs.length ≤ 100 → lt.length + gs.length ≤ 100 →
    impl_namer_anf.l0 r t K k ys.length ⟨u, (kk : Int)⟩ ⟨n, vk⟩ ns lt = some (⟨n, vk ++ allT u (aheadN t.n.Kind) ys.length gs⟩, ns ++ allN u (aheadN t.n.Kind) ys.length gs, lt ++ allLt (aheadN t.n.Kind) ys.length gs, ⟨u, ((endK u (aheadN t.n.Kind) ys.length kk gs : Nat) : Int)⟩) := by
  generalize hah : aheadN t.n.Kind = ah
  induction gs with
  | nil =>
    intro h k kk ys n vk ns lt hc ht hk hy h1 h2 h3
    obtain ⟨k, rfl⟩ := succ_of hk
    rw [impl_namer_anf.l0, ht, if_neg (by simp)]
    simp [allT, allN, allLt, endK]
  | cons g gs ih =>
    intro h k kk ys n vk ns lt hc ht hk hy h1 h2 h3
    obtain ⟨k, rfl⟩ := succ_of hk
    simp only [List.length_cons] at hk hy h1 h2 h3
    obtain ⟨ha, hc⟩ := hc
    obtain ⟨q1, q2, q3⟩ := h g (by simp)
    have e : w64 ((ys.length : Int) + 1) = ((ys ++ [g.t]).length : Int) := by rw [w64_of (by omega) (by omega)]; simp
    have hn := nextU_ok u g.b q3
    have hph := phi_len u g.b
    rw [impl_namer_anf.l0, ht, if_pos (by simp; omega), List.map_cons, at_mid, Option.bind_some, ← ha, q1, Option.bind_some]
    simp only [jn]
    rw [impl_ahead, hah, Option.bind_some]
    have step : ∀ (kk2 : Nat) (x : impl_tree) (ns2 : List ByteArray) (lt2 : List impl_tree), kk2 = stC u ah ys.length g → x = stT u ah ys.length g → ns2 = ns ++ stN u ah ys.length g → lt2 = lt ++ stLt ah ys.length g →
        (gd (((⟨n, vk⟩ : impl_tree).kids.length + 1) * 96 ≤ 140737488355328) (impl_namer_anf.l0 r t K k (w64 ((ys.length : Int) + 1)) ⟨u, (kk2 : Int)⟩ (⟨(⟨n, vk⟩ : impl_tree).n, ((⟨n, vk⟩ : impl_tree).kids ++ ([x] : List impl_tree))⟩ : impl_tree) ns2 lt2)) =
        some (⟨n, vk ++ allT u ah ys.length (g :: gs)⟩, ns ++ allN u ah ys.length (g :: gs), lt ++ allLt ah ys.length (g :: gs), ⟨u, ((endK u ah ys.length kk (g :: gs) : Nat) : Int)⟩) := by
      rintro kk2 x ns2 lt2 rfl rfl rfl rfl
      have l1 : (stN u ah ys.length g).length ≤ 1 := by unfold stN; split <;> simp
      have l2 : (stLt ah ys.length g).length ≤ 1 := by unfold stLt; split <;> simp
      rw [gd_pos (by simp only; omega), e]
      have := ih (fun y hy => h y (by simp [hy])) k (stC u ah ys.length g) (ys ++ [g.t]) n (vk ++ [stT u ah ys.length g]) (ns ++ stN u ah ys.length g) (lt ++ stLt ah ys.length g) (by simpa using hc) (by rw [ht]; simp) (by omega) (by simp; omega) (by simp; omega) (by simp; omega) (by simp; omega)
      rw [this]
      simp [allT, allN, allLt, endK]
    by_cases hi : ys.length < ah
    · rw [if_pos (by omega), impl_atom, Option.bind_some, q2]
      by_cases hat : atomB g.kd = true
      · have hg : goes ah ys.length g = false := by unfold goes; rw [hat]; simp
        rw [hat]
        simp only [Bool.not_true, Bool.false_eq_true, if_false]
        exact step g.b g.t' ns lt (by unfold stC; rw [hg]; rfl) (by unfold stT; rw [hg]; rfl) (by unfold stN; rw [hg]; simp) (by unfold stLt; rw [hg]; simp)
      · have hg : goes ah ys.length g = true := by unfold goes; rw [Bool.eq_false_iff.2 hat]; simp [hi]
        rw [Bool.eq_false_iff.2 hat]
        simp only [Bool.not_false, if_true]
        rw [impl_next u (by omega) K hK g.b q3, Option.bind_some, gd_pos (by omega), gd_pos (by omega)]
        exact step (nextU u g.b + 1) ⟨varN (freshT (nextU u g.b)), []⟩ (ns ++ [freshT (nextU u g.b)]) (lt ++ [g.t']) (by unfold stC; rw [hg]; rfl) (by unfold stT; rw [hg]; rfl) (by unfold stN; rw [hg]; rfl) (by unfold stLt; rw [hg]; rfl)
    · have hg : goes ah ys.length g = false := by unfold goes; simp [hi]
      rw [if_neg (by omega)]
      simp only [Bool.false_eq_true, if_false]
      exact step g.b g.t' ns lt (by unfold stC; rw [hg]; rfl) (by unfold stT; rw [hg]; rfl) (by unfold stN; rw [hg]; simp) (by unfold stLt; rw [hg]; simp)
theorem part_l0 (r : List Nd → Int → Int → Option (List Nd × Int)) (l : List Nd) (hl : l.length ≤ 150) (y5 : List Int) (ah : Nat) (K : Nat) (hK : 2000 ≤ K) (gs : List AK) : (∀ g ∈ gs, r l (g.x : Int) (g.a : Int) = some (g.p, (g.b : Int)) ∧ g.x < l.length ∧ (nd l g.x).Kind = g.kd ∧ g.b + phi (namesL l) g.b < 699) →
    ∀ (k kk : Nat) (ys : List Int) (ps lp : List (List Nd)) (ns : List ByteArray), Ch (namesL l) ah ys.length kk gs → (∀ (i : Nat) g, gs[i]? = some g → spec_l4Has.f K y5 (g.x : Int) = some (decide (ys.length + i < ah))) → gs.length < k → ys.length + gs.length ≤ 3 → ps.length + gs.length ≤ 100 → ns.length + gs.length ≤ 100 → lp.length + gs.length ≤ 100 →
    spec_l13Part.l0 r l y5 (ys ++ gs.map fun g => (g.x : Int)) K k (kk : Int) ys.length ps lp ns = some (((endK (namesL l) ah ys.length kk gs : Nat) : Int), ps ++ allP (namesL l) ah ys.length gs, lp ++ allLp ah ys.length gs, ns ++ allN (namesL l) ah ys.length gs) := by
  induction gs with
  | nil =>
    intro h k kk ys ps lp ns hc hh hk hy h1 h2 h3
    obtain ⟨k, rfl⟩ := succ_of hk
    rw [spec_l13Part.l0, if_neg (by simp)]
    simp [allP, allN, allLp, endK]
  | cons g gs ih =>
    intro h k kk ys ps lp ns hc hh hk hy h1 h2 h3
    obtain ⟨k, rfl⟩ := succ_of hk
    simp only [List.length_cons] at hk hy h1 h2 h3
    obtain ⟨ha, hc⟩ := hc
    obtain ⟨q1, qx, q2, q3⟩ := h g (by simp)
    have e : w64 ((ys.length : Int) + 1) = ((ys ++ [(g.x : Int)]).length : Int) := by rw [w64_of (by omega) (by omega)]; simp
    have hn := nextU_ok (namesL l) g.b q3
    rw [spec_l13Part.l0, if_pos (by simp; omega), List.map_cons, at_mid, Option.bind_some, ← ha, q1, Option.bind_some]
    simp only [jn]
    have hh0 := hh 0 g rfl
    rw [Nat.add_zero] at hh0
    rw [hh0, Option.bind_some]
    have step : ∀ (kk2 : Nat) (x : List Nd) (ns2 : List ByteArray) (lp2 : List (List Nd)), kk2 = stC (namesL l) ah ys.length g → x = stP (namesL l) ah ys.length g → ns2 = ns ++ stN (namesL l) ah ys.length g → lp2 = lp ++ stLp ah ys.length g →
        (gd ((ps.length + 1) * 24 ≤ 140737488355328) (spec_l13Part.l0 r l y5 (ys ++ (g.x : Int) :: gs.map fun g => (g.x : Int)) K k (kk2 : Int) (w64 ((ys.length : Int) + 1)) (ps ++ ([x] : List (List impl_Node))) lp2 ns2)) =
        some (((endK (namesL l) ah ys.length kk (g :: gs) : Nat) : Int), ps ++ allP (namesL l) ah ys.length (g :: gs), lp ++ allLp ah ys.length (g :: gs), ns ++ allN (namesL l) ah ys.length (g :: gs)) := by
      rintro kk2 x ns2 lp2 rfl rfl rfl rfl
      have l1 : (stN (namesL l) ah ys.length g).length ≤ 1 := by unfold stN; split <;> simp
      have l2 : (stLp ah ys.length g).length ≤ 1 := by unfold stLp; split <;> simp
      rw [gd_pos (by omega), e, show ys ++ (g.x : Int) :: gs.map (fun g => (g.x : Int)) = (ys ++ [(g.x : Int)]) ++ gs.map (fun g => (g.x : Int)) by simp]
      have := ih (fun y hy => h y (by simp [hy])) k (stC (namesL l) ah ys.length g) (ys ++ [(g.x : Int)]) (ps ++ [stP (namesL l) ah ys.length g]) (lp ++ stLp ah ys.length g) (ns ++ stN (namesL l) ah ys.length g) (by simpa using hc) (fun i y hy => by
        have := hh (i + 1) y (by simpa using hy)
        rw [List.length_append, List.length_singleton, show ys.length + 1 + i = ys.length + (i + 1) by omega]; exact this) (by omega) (by simp; omega) (by simp; omega) (by simp; omega) (by simp; omega)
      rw [this]
      simp [allP, allN, allLp, endK]
    by_cases hi : ys.length < ah
    · rw [decide_eq_true hi, if_pos rfl, at_nd l g.x qx, Option.bind_some, spec_atom, Option.bind_some, q2]
      by_cases hat : atomB g.kd = true
      · have hg : goes ah ys.length g = false := by unfold goes; rw [hat]; simp
        rw [hat]
        simp only [Bool.not_true, Bool.false_eq_true, if_false]
        exact step g.b g.p ns lp (by unfold stC; rw [hg]; rfl) (by unfold stP; rw [hg]; rfl) (by unfold stN; rw [hg]; simp) (by unfold stLp; rw [hg]; simp)
      · have hg : goes ah ys.length g = true := by unfold goes; rw [Bool.eq_false_iff.2 hat]; simp [hi]
        rw [Bool.eq_false_iff.2 hat]
        simp only [Bool.not_false, if_true]
        rw [spec_next l (by omega) K hK g.b q3, Option.bind_some, gd_pos (by omega), (fresh_all (n := nextU (namesL l) g.b) (by omega) (by omega)).1, Option.bind_some, gd_pos (by omega), Option.bind_some]
        unfold spec_l3Var.f
        rw [Option.bind_some, w64_of (x := ((nextU (namesL l) g.b : Nat) : Int) + 1) (by omega) (by omega)]
        exact step (nextU (namesL l) g.b + 1) [varN (freshT (nextU (namesL l) g.b))] (ns ++ [freshT (nextU (namesL l) g.b)]) (lp ++ [g.p]) (by unfold stC; rw [hg]; rfl) (by unfold stP; rw [hg]; rfl) (by unfold stN; rw [hg]; rfl) (by unfold stLp; rw [hg]; rfl)
    · have hg : goes ah ys.length g = false := by unfold goes; simp [hi]
      rw [decide_eq_false hi, if_neg (by simp)]
      simp only [Bool.false_eq_true, if_false]
      exact step g.b g.p ns lp (by unfold stC; rw [hg]; rfl) (by unfold stP; rw [hg]; rfl) (by unfold stN; rw [hg]; simp) (by unfold stLp; rw [hg]; simp)
end Go.Proofs.YtfkanjgfjejgiaaGreatDoorE

namespace Go.Proofs.YtfkanjgfjejgiaaGreatDoorE
open Go.Ev Go.RowKit
set_option linter.unusedVariables false
set_option linter.unusedSimpArgs false
/-! ### lets over a node -/
def wrapT : List ByteArray → List impl_tree → impl_tree → impl_tree
  | n :: ns, t :: ts, o => ⟨letN n, [t, wrapT ns ts o]⟩
  | _, _, o => o
def wrapP : List ByteArray → List (List Nd) → List Nd → List Nd
  | n :: ns, p :: ps, o => make (letN n) [p, wrapP ns ps o]
  | _, _, o => o
theorem wrapT_snoc : ∀ (ns : List ByteArray) (ts : List impl_tree) (n : ByteArray) (t o : impl_tree), ns.length = ts.length → wrapT (ns ++ [n]) (ts ++ [t]) o = wrapT ns ts ⟨letN n, [t, o]⟩
  | [], [], n, t, o, _ => rfl
  | m :: ns, s :: ts, n, t, o, h => by
    simp only [List.cons_append, wrapT]
    rw [wrapT_snoc ns ts n t o (by simpa using h)]
  | [], _ :: _, _, _, _, h => by simp at h
  | _ :: _, [], _, _, _, h => by simp at h
theorem wrapP_snoc : ∀ (ns : List ByteArray) (ts : List (List Nd)) (n : ByteArray) (t o : List Nd), ns.length = ts.length → wrapP (ns ++ [n]) (ts ++ [t]) o = wrapP ns ts (make (letN n) [t, o])
  | [], [], n, t, o, _ => rfl
  | m :: ns, s :: ts, n, t, o, h => by
    simp only [List.cons_append, wrapP]
    rw [wrapP_snoc ns ts n t o (by simpa using h)]
  | [], _ :: _, _, _, _, h => by simp at h
  | _ :: _, [], _, _, _, h => by simp at h
theorem wrapP_len : ∀ (ns : List ByteArray) (ts : List (List Nd)) (o : List Nd), ns.length = ts.length → (wrapP ns ts o).length = o.length + lens ts + ns.length
  | [], [], o, _ => by simp [wrapP, lens]
  | m :: ns, s :: ts, o, h => by
    simp only [wrapP, make_len, lens, List.length_cons]
    rw [wrapP_len ns ts o (by simpa using h)]
    omega
  | [], _ :: _, _, h => by simp at h
  | _ :: _, [], _, h => by simp at h
theorem impl_l1 (N : List ByteArray) (L : List impl_tree) (hl : N.length = L.length) (hn : N.length ≤ 100) (K : Nat) : ∀ (j k : Nat) (o : impl_tree), j ≤ N.length → j < k → impl_namer_anf.l1 N L K k ((j : Int) - 1) o = some (wrapT (N.take j) (L.take j) o) := by
  intro j
  induction j with
  | zero =>
    intro k o _ hk
    obtain ⟨k, rfl⟩ := succ_of hk
    rw [impl_namer_anf.l1, if_neg (by omega)]
    simp [wrapT]
  | succ j ih =>
    intro k o hj hk
    obtain ⟨k, rfl⟩ := succ_of (show 0 < k by omega)
    rw [impl_namer_anf.l1, if_pos (by omega), show (((j + 1 : Nat) : Int) - 1) = (j : Int) by omega, at_in N j (by omega), Option.bind_some, at_in L j (by omega), Option.bind_some, w64_of (by omega) (by omega), ih k _ (by omega) (by omega)]
    have e1 : N.take (j + 1) = N.take j ++ [N[j]'(by omega)] := by rw [List.take_add_one]; simp [show j < N.length by omega]
    have e2 : L.take (j + 1) = L.take j ++ [L[j]'(by omega)] := by rw [List.take_add_one]; simp [show j < L.length by omega]
    rw [e1, e2, wrapT_snoc _ _ _ _ _ (by simp; omega)]
    rfl
theorem spec_l2 (N : List ByteArray) (L : List (List Nd)) (hl : N.length = L.length) (hn : N.length ≤ 100) (K : Nat) (hK : 1000 ≤ K) : ∀ (j k : Nat) (o : List Nd), j ≤ N.length → j < k → o.length + lens (L.take j) + j ≤ 900 → spec_l13Part.l2 L N K k ((j : Int) - 1) o = some (wrapP (N.take j) (L.take j) o) := by
  have lapp : ∀ (a b : List (List Nd)), lens (a ++ b) = lens a + lens b := by
    intro a
    induction a with
    | nil => intro b; simp [lens]
    | cons x a ih => intro b; simp [lens, ih]; omega
  intro j
  induction j with
  | zero =>
    intro k o _ hk _
    obtain ⟨k, rfl⟩ := succ_of hk
    rw [spec_l13Part.l2, if_neg (by omega)]
    simp [wrapP]
  | succ j ih =>
    intro k o hj hk hlen
    obtain ⟨k, rfl⟩ := succ_of (show 0 < k by omega)
    have e1 : N.take (j + 1) = N.take j ++ [N[j]'(by omega)] := by rw [List.take_add_one]; simp [show j < N.length by omega]
    have e2 : L.take (j + 1) = L.take j ++ [L[j]'(by omega)] := by rw [List.take_add_one]; simp [show j < L.length by omega]
    rw [e2, lapp] at hlen
    simp only [lens] at hlen
    rw [spec_l13Part.l2, if_pos (by omega), show (((j + 1 : Nat) : Int) - 1) = (j : Int) by omega, at_in N j (by omega), Option.bind_some, at_in L j (by omega), Option.bind_some, l3Make_f _ _ K hK (by simp) (by simp [lens]; omega), Option.bind_some, w64_of (by omega) (by omega), ih k _ (by omega) (by omega) (by rw [make_len]; simp only [lens]; omega)]
    rw [e1, e2, wrapP_snoc _ _ _ _ _ (by simp; omega)]
    rfl
/-! ### trees written down -/
def FlatOk (N : Nat) (t : impl_tree) (p : List Nd) : Prop := ∀ K d, N ≤ K → N ≤ d → ∀ out : List Nd, out.length + p.length ≤ 1000 → impl_flat.r K d out t = some (out ++ shiftL out.length p)
theorem FlatOk.up {N M : Nat} {t : impl_tree} {p : List Nd} (h : FlatOk N t p) (q : N ≤ M) : FlatOk M t p := fun K d a b => h K d (by omega) (by omega)
theorem flat_l0 (r : List Nd → impl_tree → Option (List Nd)) (t : impl_tree) (K : Nat) (gs : List (impl_tree × List Nd)) : (∀ g ∈ gs, ∀ out : List Nd, out.length + g.2.length ≤ 1000 → r out g.1 = some (out ++ shiftL out.length g.2)) → ∀ (k : Nat) (ys : List impl_tree) (o : List Nd) (n : Nd), t.kids = ys ++ gs.map Prod.fst → gs.length < k → ys.length + gs.length ≤ 3 → o.length + lens (gs.map Prod.snd) ≤ 1000 →
    impl_flat.l0 r t K k ys.length o n = some ((glue ys.length n o (gs.map Prod.snd)).2, (glue ys.length n o (gs.map Prod.snd)).1) := by
  induction gs with
  | nil =>
    intro h k ys o n ht hk hy ho
    obtain ⟨k, rfl⟩ := succ_of hk
    rw [impl_flat.l0, ht, if_neg (by simp)]
    rfl
  | cons g gs ih =>
    intro h k ys o n ht hk hy ho
    obtain ⟨k, rfl⟩ := succ_of hk
    simp only [List.length_cons, List.map_cons, lens] at hk hy ho
    have e : w64 ((ys.length : Int) + 1) = ((ys ++ [g.1]).length : Int) := by rw [w64_of (by omega) (by omega)]; simp
    rw [impl_flat.l0, ht, if_pos (by simp; omega), jn, List.map_cons, at_mid, Option.bind_some, h g (by simp) o (by omega), Option.bind_some]
    have key : ∀ m : Nd, m = setKid ys.length n (w64 (((o.length + g.2.length : Nat) : Int) - 1)) → impl_flat.l0 r t K k (w64 ((ys.length : Int) + 1)) (o ++ shiftL o.length g.2) m = some ((glue ys.length n o (g.2 :: gs.map Prod.snd)).2, (glue ys.length n o (g.2 :: gs.map Prod.snd)).1) := by
      rintro m rfl
      rw [e, ih (fun y hy => h y (by simp [hy])) k (ys ++ [g.1]) _ _ (by rw [ht]; simp) (by omega) (by simp; omega) (by simp [shiftL_len]; omega), glue]
      simp
    have el : ((o ++ shiftL o.length g.2).length : Int) = ((o.length + g.2.length : Nat) : Int) := by simp [shiftL_len]
    rw [el]
    by_cases h0 : (ys.length : Int) = 0
    · rw [if_pos h0]
      exact key _ (by rw [setKid, if_pos (by omega)])
    · rw [if_neg h0]
      by_cases h1 : (ys.length : Int) = 1
      · rw [if_pos h1]
        exact key _ (by rw [setKid, if_neg (by omega), if_pos (by omega)])
      · rw [if_neg h1]
        by_cases h2 : (ys.length : Int) = 2
        · rw [if_pos h2]
          exact key _ (by rw [setKid, if_neg (by omega), if_neg (by omega)])
        · omega
theorem flat_node {N : Nat} {gs : List (impl_tree × List Nd)} (h : ∀ g ∈ gs, FlatOk N g.1 g.2) (n : Nd) (ha : arityN n.Kind = gs.length) (ho : lens (gs.map Prod.snd) + 1 ≤ 1000) : FlatOk (N + 1000) ⟨n, gs.map Prod.fst⟩ (make n (gs.map Prod.snd)) := by
  intro K d hK hd out hout
  rw [make_len] at hout
  obtain ⟨d, rfl⟩ := succ_of (show 0 < d by omega)
  have al := arity_le n.Kind
  rw [impl_flat.r, impl_flat.b, jn]
  have q := flat_l0 (impl_flat.r K d) ⟨n, gs.map Prod.fst⟩ K gs (fun g hg => h g hg K d (by omega) (by omega)) K [] out n rfl (by omega) (by simp; omega) (by omega)
  rw [show (0 : Int) = (([] : List impl_tree).length : Int) from rfl, q]
  have gl := glue_len (gs.map Prod.snd) 0 n out
  show gd (((glue 0 n out (gs.map Prod.snd)).2.length + 1) * 72 ≤ 140737488355328) (some ((glue 0 n out (gs.map Prod.snd)).2 ++ [(glue 0 n out (gs.map Prod.snd)).1])) = _
  rw [gd_pos (by omega), glue_out out n _ (by simpa using ha) (by simp; omega)]
theorem tree_l0 (r : List Nd → Int → Option impl_tree) (l : List Nd) (K : Nat) (gs : List AK) : (∀ g ∈ gs, r l (g.x : Int) = some g.t) → ∀ (k : Nat) (ys : List Int) (v : impl_tree), gs.length < k → ys.length + gs.length ≤ 3 → v.kids.length + gs.length ≤ 1000 →
    impl_treeOf.l0 r l (ys ++ gs.map fun g => (g.x : Int)) K k ys.length v = some ⟨v.n, v.kids ++ gs.map AK.t⟩ := by
  induction gs with
  | nil =>
    intro h k ys v hk hy hv
    obtain ⟨k, rfl⟩ := succ_of hk
    rw [impl_treeOf.l0, if_neg (by simp)]
    cases v
    simp
  | cons g gs ih =>
    intro h k ys v hk hy hv
    obtain ⟨k, rfl⟩ := succ_of hk
    simp only [List.length_cons] at hk hy hv
    have e : w64 ((ys.length : Int) + 1) = ((ys ++ [(g.x : Int)]).length : Int) := by rw [w64_of (by omega) (by omega)]; simp
    rw [impl_treeOf.l0, if_pos (by simp; omega), List.map_cons, at_mid, Option.bind_some, h g (by simp), Option.bind_some, gd_pos (by omega), e, show ys ++ (g.x : Int) :: gs.map (fun g => (g.x : Int)) = (ys ++ [(g.x : Int)]) ++ gs.map (fun g => (g.x : Int)) by simp,
      ih (fun y hy => h y (by simp [hy])) k (ys ++ [(g.x : Int)]) _ (by omega) (by simp; omega) (by simp; omega)]
    simp
def bare (n : Nd) : Nd := ⟨n.Kind, 0, 0, 0, n.N, n.Name, n.Other⟩
theorem tree_node {l : List Nd} {N : Nat} {gs : List AK} (h : ∀ g ∈ gs, ∀ K d, N ≤ K → N ≤ d → impl_treeOf.r K d l (g.x : Int) = some g.t) (x : Nat) (hx : x < l.length) (hk : kids (nd l x) = gs.map fun g => (g.x : Int)) {K d : Nat} (hK : N + 1000 ≤ K) (hd : N + 1 ≤ d) :
    impl_treeOf.r K d l (x : Int) = some ⟨bare (nd l x), gs.map AK.t⟩ := by
  obtain ⟨d, rfl⟩ := succ_of (show 0 < d by omega)
  have al := arity_le (nd l x).Kind
  have kl := kids_len (nd l x)
  rw [hk, List.length_map] at kl
  rw [impl_treeOf.r, impl_treeOf.b, at_nd l x hx, Option.bind_some, jn, impl_kids, Option.bind_some, hk]
  have q := tree_l0 (impl_treeOf.r K d) l K gs (fun g hg => h g hg K d (by omega) (by omega)) K [] ⟨nd l x, []⟩ (by omega) (by simp; omega) (by simp; omega)
  rw [List.nil_append] at q
  rw [show (0 : Int) = (([] : List Int).length : Int) from rfl, q]
  rfl
end Go.Proofs.YtfkanjgfjejgiaaGreatDoorE
