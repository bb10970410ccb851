/- The program's run is the neutral one's. -/
import Derived.Test.YtifomiglajcanaaGreatDoorZUvMr
import Derived.Lib.ItoaLen
set_option linter.unusedSimpArgs false
set_option linter.unusedVariables false
namespace Go.Proofs.YtifomiglajcanaaGreatDoorE
open Go.Ev Go.RowKit
set_option linter.unusedVariables false
set_option linter.unusedSimpArgs false
theorem w64_len {α : Type} (E : List α) (c : α) (h : E.length ≤ 1000000) : w64 (((E ++ ([c] : List α)).length : Int) - 1) = (E.length : Int) := by
  rw [List.length_append, List.length_singleton, w64_of (by omega) (by omega)]; omega
section
variable {K : Nat} {h : Hs} {l : List Nd} {us : List Bi} {d n e : Int} {v : Vl} {fr : List Fr} {ev : List Evt} {b : Bool}
theorem i_done (hv : ev.length ≤ 1000000) (i : Int) (x : Vl) : impl_machine_done.f K ⟨h, l, us, d, n, e, v, fr, ev, b⟩ i x = some ⟨h, l, us, 1, n, e, x, fr, ev ++ [⟨2, i, x.Kind⟩], b⟩ := by
  unfold impl_machine_done.f
  rw [gd_pos (by simp only; omega)]; rfl
theorem i_push (hv : fr.length ≤ 1000000) (f : Fr) : impl_machine_push.f K ⟨h, l, us, d, n, e, v, fr, ev, b⟩ f = some ⟨h, l, us, d, n, e, v, fr ++ [f], ev, b⟩ := by
  unfold impl_machine_push.f
  rw [gd_pos (by simp only; omega)]
theorem i_pass (hv : fr.length ≤ 1000000) (i : Int) : impl_machine_pass.f K ⟨h, l, us, d, n, e, v, fr, ev, b⟩ i = some ⟨h, l, us, d, n, e, v, fr ++ [psF i], ev, b⟩ := by
  unfold impl_machine_pass.f
  rw [i_push hv, Option.bind_some]; rfl
theorem i_cell (hv : h.Envs.length ≤ 1000000) (i r : Int) (x : Vl) (z : Int) : impl_machine_cell.f K ⟨h, l, us, d, n, e, v, fr, ev, b⟩ i r x z = some (elen h, ⟨hE h ⟨i, r, x, z⟩, l, us, d, n, e, v, fr, ev, b⟩) := by
  unfold impl_machine_cell.f
  rw [gd_pos (by simp only; omega)]
  simp only [w64_len _ _ hv]; rfl
theorem i_two (hv : h.Twos.length ≤ 1000000) (k : Int) (x y : Vl) : impl_machine_two.f K ⟨h, l, us, d, n, e, v, fr, ev, b⟩ k x y = some (⟨k, (h.Twos.length : Int)⟩, ⟨hT h ⟨x, y⟩, l, us, d, n, e, v, fr, ev, b⟩) := by
  unfold impl_machine_two.f
  rw [gd_pos (by simp only; omega)]
  simp only [w64_len _ _ hv]; rfl
theorem i_look (x z : Int) : impl_machine_look.f K ⟨h, l, us, d, n, e, v, fr, ev, b⟩ x z = some ⟨h, l, us, 0, x, z, v, fr, ev, b⟩ := rfl
end
def lkR (h : Hs) : Option Vl → (Vl × Bool × Hs) ⊕ Unit
  | some v => .inl (v, true, h)
  | none => .inr ()
theorem i_lookUp_l0 {h : Hs} (o : EOk h.Envs) (b : Bi) (K : Nat) : ∀ (k : Nat) (e : Int), e < h.Envs.length → (e + 1).toNat < k → impl_Heap_lookUp.l0 h b K k e = some (lkR h (lkp h.Envs b e)) := by
  intro k
  induction k with
  | zero => intro e _ h0; omega
  | succ k ih =>
    intro e he hk
    rw [impl_Heap_lookUp.l0]
    by_cases h0 : e ≥ 0
    · rw [if_pos h0, at_cE _ _ h0 he, Option.bind_some, lkp_at o b e h0 he]
      simp only [jn]
      have hn := o.at h0 he
      have rest : impl_Heap_lookUp.l0 h b K k (cE h.Envs e).Next = some (lkR h (lkp h.Envs b (cE h.Envs e).Next)) := ih _ (by omega) (by omega)
      by_cases h1 : (cE h.Envs e).Node = b.Node
      · rw [if_pos h1]
        by_cases h2 : (cE h.Envs e).Role = b.Role
        · rw [decide_eq_true h2, if_pos rfl, if_pos ⟨h1, h2⟩]; rfl
        · rw [decide_eq_false h2, if_neg (by simp), if_neg (fun q => h2 q.2)]; exact rest
      · rw [if_neg h1, if_neg (by simp), if_neg (fun q => h1 q.1)]; exact rest
    · rw [if_neg h0, lkp_neg _ _ _ (by omega)]; rfl
theorem i_lookUp {h : Hs} (o : EOk h.Envs) (b : Bi) (e : Int) (he : e < h.Envs.length) (K : Nat) (hK : h.Envs.length < K) {v : Vl} (q : lkp h.Envs b e = some v) : impl_Heap_lookUp.f K h e b = some (v, true, h) := by
  unfold impl_Heap_lookUp.f
  simp only [jn]
  rw [i_lookUp_l0 o b K K e he (by omega), q]; rfl
def toI (l : List Nd) (m : Mc) : impl_machine := ⟨m.h, l, bindersL l, m.d, m.node, m.env, m.v, m.fr, m.ev, false⟩
def outI (l : List Nd) (m : Mc) : Option Mc → impl_machine
  | some m' => toI l m'
  | none => ⟨m.h, l, bindersL l, m.d, m.node, m.env, m.v, m.fr, m.ev, true⟩
structure Sm (m : Mc) : Prop where
  e : m.h.Envs.length ≤ 100000
  c : m.h.Clos.length ≤ 100000
  t : m.h.Twos.length ≤ 100000
  r : m.h.Refs.length ≤ 100000
  f : m.fr.length ≤ 100000
  v : m.ev.length ≤ 100000
theorem i_looks {l : List Nd} (h : nodesOkB l = true) (hc : ClosedP l) {m : Mc} (q : MOk l m) (k : LkOk l m.h m.node m.env) (s : Sm m) (K : Nat) (hK : 200000 ≤ K) : impl_machine_looks.f K (toI l m) = some (toI l (lookM l m)) := by
  obtain ⟨x0, x1, e0, e1, cov⟩ := k
  obtain ⟨se, sc, st, sr, sf, sv⟩ := s
  unfold impl_machine_looks.f toI lookM
  simp only
  rw [at_ndZ l m.node x0 x1, Option.bind_some]
  have hx : m.node.toNat < l.length := by omega
  have hn := nat_of x0
  generalize hnn : nd l m.node.toNat = nn
  by_cases h2 : nn.Kind = 2
  · rw [if_pos h2, if_pos h2, i_done (by omega), Option.bind_some]; rfl
  rw [if_neg h2, if_neg h2]
  by_cases h12 : nn.Kind = 12
  · rw [if_pos h12, if_pos h12, i_done (by omega), Option.bind_some]; rfl
  rw [if_neg h12, if_neg h12]
  by_cases h1 : nn.Kind = 1
  · rw [if_pos h1, if_pos h1]
    have hb := hc _ hx (by rw [hnn]; exact h1)
    have hv : Vis l m.node (binderB l m.node.toNat) := by
      unfold binderB at hb ⊢
      rw [hnn, if_pos h1, hn] at hb ⊢
      exact up_vis l _ _ _ hb
    obtain ⟨v, hv⟩ := cov _ hv
    have ha : at_ (bindersL l) m.node = some (binderB l m.node.toNat) := by
      have := at_binders l m.node.toNat hx
      rwa [hn] at this
    rw [ha, Option.bind_some, i_lookUp q.h.eo _ _ e1 K (by omega) hv, Option.bind_some, hv]
    rw [i_done (by omega), Option.bind_some]; rfl
  rw [if_neg h1, if_neg h1]
  by_cases h3 : nn.Kind = 3
  · rw [if_pos h3, if_pos h3, gd_pos (by omega), w64_len _ _ (by omega), i_done (by omega), Option.bind_some]; rfl
  rw [if_neg h3, if_neg h3]
  by_cases h6 : nn.Kind = 6
  · rw [if_pos h6, if_pos h6, i_cell (by omega)]
    simp only [Option.bind_some]
    rw [gd_pos (by simp only [hE]; omega)]
    rw [i_pass (by omega), Option.bind_some, i_look, Option.bind_some]; rfl
  rw [if_neg h6, if_neg h6, i_push (by omega), Option.bind_some, i_look, Option.bind_some]; rfl
theorem i_isList (K : Nat) (v : Vl) : impl_isList.f K v = some (decide (isL v)) := by
  unfold impl_isList.f isL
  by_cases h2 : v.Kind = 2
  · rw [if_pos h2]; simp [h2]
  · rw [if_neg h2]; simp [h2]
theorem i_prim (K : Nat) (op a b : Int) (ha : 0 ≤ a ∧ a ≤ 65535) (hb : 0 ≤ b ∧ b ≤ 65535) : impl_prim.f K op a b = some (primN op a b) := by
  unfold impl_prim.f primN
  simp only [jn]
  by_cases h0 : op = 0
  · rw [if_pos h0, if_pos h0, w64_of (by omega) (by omega)]
  rw [if_neg h0, if_neg h0]
  by_cases h1 : op = 1
  · rw [if_pos h1, if_pos h1, w64_of (x := a - b) (by omega) (by omega), w64_of (by omega) (by omega)]
  rw [if_neg h1, if_neg h1]
  by_cases h2 : op = 2
  · rw [if_pos h2, if_pos h2]; by_cases q : a < b <;> simp [q]
  rw [if_neg h2, if_neg h2]
  by_cases q : a = b <;> simp [q]
theorem jn_two {ρ : Type} (p q : Prop) [Decidable p] [Decidable q] (f : Bool → Option ρ) : jn f (fun j => if p then j (decide q) else j false) = f (decide (p ∧ q)) := by
  unfold jn
  by_cases hp : p <;> by_cases hq : q <;> simp [hp, hq]
theorem jn_isL {ρ : Type} (p : Prop) [Decidable p] (K : Nat) (v : Vl) (f : Bool → Option ρ) : jn f (fun j => if p then ((impl_isList.f K v).bind fun y => j y) else j false) = f (decide (p ∧ isL v)) := by
  rw [i_isList]; exact jn_two p (isL v) f
theorem jn_three {ρ : Type} (p q r : Prop) [Decidable p] [Decidable q] [Decidable r] (f : Bool → Option ρ) : jn f (fun j => if p then (if q then j (decide r) else j false) else j false) = f (decide (p ∧ q ∧ r)) := by
  unfold jn
  by_cases hp : p <;> by_cases hq : q <;> by_cases hr : r <;> simp [hp, hq, hr]
theorem jn_five {ρ : Type} (k : Int) (f : Bool → Option ρ) : jn f (fun j => if k = 4 then j true else if k = 8 then j true else if k = 9 then j true else if k = 13 then j true else j (decide (k = 17))) = f (decide (five k)) := by
  unfold jn five
  by_cases a : k = 4
  · simp [a]
  by_cases b : k = 8
  · simp [b]
  by_cases c : k = 9
  · simp [c]
  by_cases d : k = 13
  · simp [d]
  by_cases e : k = 17
  · simp [e]
  · simp [a, b, c, d, e]
/-- A test of two parts. -/
theorem two_if {ρ : Type} (p q : Prop) [Decidable p] [Decidable q] (j : Bool → ρ) : (if p then j (decide q) else j false) = j (decide (p ∧ q)) := by
  by_cases hp : p <;> by_cases hq : q <;> simp [hp, hq]
theorem bool_if {ρ : Type} (p : Prop) [Decidable p] (a b : ρ) : (if decide p = true then a else b) = if p then a else b := by
  by_cases hp : p <;> simp [hp]
section
variable {l : List Nd} {m : Mc} {K : Nat}
theorem i_call (q : MOk l m) (s : Sm m) {i : Int} {f v : Vl} (hf : VOk m.h f) (hk : f.Kind = 1) : impl_machine_call.f K (toI l m) i f v = some (toI l (callM l m i f v)) := by
  have hc := vok_clo hf hk
  obtain ⟨e0, e1, x0, x1, cov, kk⟩ := q.h.cloI hc.1 hc.2
  obtain ⟨se, sc, st, sr, sf, sv⟩ := s
  unfold impl_machine_call.f toI callM
  simp only [jn]
  rw [at_cC _ _ hc.1 hc.2, Option.bind_some, at_ndZ l _ x0 x1, Option.bind_some]
  generalize cC m.h.Clos f.N = c at x0 x1 ⊢
  have fin : ∀ r : Int, (gd ((m.ev.length + 1) * 24 ≤ 140737488355328) ((impl_machine_pass.f K (⟨m.h, l, bindersL l, m.d, m.node, m.env, m.v, m.fr, m.ev ++ [⟨1, i, c.Node⟩], false⟩ : impl_machine) i).bind fun y5 => ((impl_machine_cell.f K y5 c.Node r v c.Env).bind fun (y7, y8) => ((at_ y8.l c.Node).bind fun x10 => ((impl_machine_look.f K y8 x10.A y7).bind fun y11 => (some y11)))))) =
      some (⟨hE m.h ⟨c.Node, r, v, c.Env⟩, l, bindersL l, 0, (nd l c.Node.toNat).A, elen m.h, m.v, m.fr ++ [psF i], m.ev ++ [⟨1, i, c.Node⟩], false⟩ : impl_machine) := fun r => by
    rw [gd_pos (by omega), i_pass (by omega), Option.bind_some, i_cell (by omega)]
    simp only [Option.bind_some]
    rw [at_ndZ l _ x0 x1, Option.bind_some, i_look, Option.bind_some]
  by_cases h6 : (nd l c.Node.toNat).Kind = 6
  · rw [if_pos h6, if_pos h6]; exact fin 1
  · rw [if_neg h6, if_neg h6]; exact fin 0
theorem i_second (q : MOk l m) (s : Sm m) {f : Fr} (hf : FrOk l m.h f) : impl_machine_second.f K (toI l m) f = some (outI l m (secondM l m f)) := by
  have s0 := s
  obtain ⟨se, sc, st, sr, sf, sv⟩ := s
  unfold impl_machine_second.f secondM
  simp only [jn_two, jn_isL, jn_three, bool_if]
  show (at_ l f.node).bind _ = _
  rw [at_ndZ l _ hf.n0 hf.n1, Option.bind_some]
  generalize nd l f.node.toNat = n
  by_cases h9 : n.Kind = 9
  · rw [if_pos h9, if_pos h9]
    unfold toI
    rw [i_two (by omega)]
    simp only [Option.bind_some]
    rw [i_done (by omega), Option.bind_some]; rfl
  rw [if_neg h9, if_neg h9]
  rw [show (toI l m).v_ = m.v from rfl]
  by_cases c1 : n.Kind = 13 ∧ isL m.v
  · rw [if_pos c1, if_pos c1]
    unfold toI
    rw [i_two (by omega)]
    simp only [Option.bind_some]
    rw [i_done (by omega), Option.bind_some]; rfl
  rw [if_neg c1, if_neg c1]
  by_cases c2 : n.Kind = 17 ∧ f.v_.Kind = 5
  · rw [if_pos c2, if_pos c2]
    have hr := vok_ref hf.v c2.2
    unfold toI
    dsimp only
    rw [at_cR _ _ hr.1 hr.2, Option.bind_some, i_done (by omega), Option.bind_some]; rfl
  rw [if_neg c2, if_neg c2]
  by_cases c3 : n.Kind = 8 ∧ f.v_.Kind = 0 ∧ m.v.Kind = 0
  · rw [if_pos c3, if_pos c3, i_prim _ _ _ _ (vok_int hf.v c3.2.1) (vok_int q.v c3.2.2), Option.bind_some]
    unfold toI
    rw [i_done (by omega), Option.bind_some]; rfl
  rw [if_neg c3, if_neg c3]
  by_cases c4 : n.Kind = 4 ∧ f.v_.Kind = 1
  · rw [if_pos c4, if_pos c4, i_call q s0 hf.v c4.2, Option.bind_some]; rfl
  · rw [if_neg c4, if_neg c4]; rfl
theorem i_match (q : MOk l m) (s : Sm m) {f : Fr} (hv : isL m.v) : impl_machine_match.f K (toI l m) f (nd l f.node.toNat) m.v = some (toI l (matchM l m f)) := by
  obtain ⟨se, sc, st, sr, sf, sv⟩ := s
  unfold impl_machine_match.f matchM toI
  rw [i_pass (by omega), Option.bind_some]
  by_cases h2 : m.v.Kind = 2
  · rw [if_pos h2, i_look, Option.bind_some]
    simp only [if_pos h2]; rfl
  · rw [if_neg h2]
    have ht := vok_two q.v (.inr (by unfold isL at hv; omega))
    rw [at_cT _ _ ht.1 ht.2, Option.bind_some, i_cell (by omega)]
    simp only [Option.bind_some]
    rw [show (hE m.h ⟨f.node, 0, (cT m.h.Twos m.v.N).A, f.env⟩).Twos = m.h.Twos from rfl, at_cT _ _ ht.1 ht.2, Option.bind_some, i_cell (by simp only [hE, List.length_append, List.length_singleton]; omega)]
    simp only [Option.bind_some]
    rw [i_look, Option.bind_some]
    simp only [if_neg h2]
    have e : elen (hE m.h ⟨f.node, 0, (cT m.h.Twos m.v.N).A, f.env⟩) = elen m.h + 1 := by unfold elen hE; simp
    rw [e]; rfl
theorem i_take (q : MOk l m) (s : Sm m) {f : Fr} : impl_machine_take.f K (toI l m) f (nd l f.node.toNat) m.v = some (outI l m (takeM l m f)) := by
  obtain ⟨se, sc, st, sr, sf, sv⟩ := s
  unfold impl_machine_take.f takeM
  simp only [jn_two, bool_if]
  generalize nd l f.node.toNat = n
  by_cases c1 : n.Kind = 10 ∧ m.v.Kind = 3
  · have ht := vok_two q.v (.inl c1.2)
    rw [if_pos c1, if_pos c1]
    unfold toI
    dsimp only
    rw [at_cT _ _ ht.1 ht.2, Option.bind_some, i_done (by omega), Option.bind_some]; rfl
  rw [if_neg c1, if_neg c1]
  by_cases c2 : n.Kind = 11 ∧ m.v.Kind = 3
  · have ht := vok_two q.v (.inl c2.2)
    rw [if_pos c2, if_pos c2]
    unfold toI
    dsimp only
    rw [at_cT _ _ ht.1 ht.2, Option.bind_some, i_done (by omega), Option.bind_some]; rfl
  rw [if_neg c2, if_neg c2]
  by_cases c3 : n.Kind = 16 ∧ m.v.Kind = 5
  · have ht := vok_ref q.v c3.2
    rw [if_pos c3, if_pos c3]
    unfold toI
    dsimp only
    rw [at_cR _ _ ht.1 ht.2, Option.bind_some, i_done (by omega), Option.bind_some]; rfl
  rw [if_neg c3, if_neg c3]
  by_cases c4 : n.Kind = 18 ∧ m.v.Kind = 0
  · rw [if_pos c4, if_pos c4]; rfl
  · rw [if_neg c4, if_neg c4]; rfl
theorem i_first (q : MOk l m) (s : Sm m) {f : Fr} (hf : FrOk l m.h f) : impl_machine_first.f K (toI l m) f = some (outI l m (firstM l m f)) := by
  have s0 := s
  obtain ⟨se, sc, st, sr, sf, sv⟩ := s
  unfold impl_machine_first.f firstM
  simp only [jn_two, jn_isL, jn_five, bool_if]
  show (at_ l f.node).bind _ = _
  rw [at_ndZ l _ hf.n0 hf.n1, Option.bind_some]
  rw [show (toI l m).v_ = m.v from rfl]
  by_cases c0 : five (nd l f.node.toNat).Kind
  · rw [if_pos c0, if_pos c0]
    unfold toI
    rw [i_push (by omega), Option.bind_some, i_look, Option.bind_some]; rfl
  rw [if_neg c0, if_neg c0]
  by_cases c1 : (nd l f.node.toNat).Kind = 5
  · rw [if_pos c1, if_pos c1]
    unfold toI
    rw [i_pass (by omega), Option.bind_some, i_cell (by omega)]
    simp only [Option.bind_some]
    rw [i_look, Option.bind_some]; rfl
  rw [if_neg c1, if_neg c1]
  by_cases c2 : (nd l f.node.toNat).Kind = 19
  · rw [if_pos c2, if_pos c2]
    unfold toI
    rw [i_done (by omega), Option.bind_some]; rfl
  rw [if_neg c2, if_neg c2]
  by_cases c3 : (nd l f.node.toNat).Kind = 7 ∧ m.v.Kind = 0
  · rw [if_pos c3, if_pos c3]
    unfold toI
    rw [i_pass (by omega), Option.bind_some]
    by_cases z : m.v.N = 0
    · rw [decide_eq_true z, if_neg (by simp), i_look, Option.bind_some, if_pos z]; rfl
    · rw [decide_eq_false z, if_pos (by simp), i_look, Option.bind_some, if_neg z]; rfl
  rw [if_neg c3, if_neg c3]
  by_cases c4 : (nd l f.node.toNat).Kind = 14 ∧ isL m.v
  · rw [if_pos c4, if_pos c4, i_match q s0 c4.2, Option.bind_some]; rfl
  rw [if_neg c4, if_neg c4]
  by_cases c5 : (nd l f.node.toNat).Kind = 15
  · rw [if_pos c5, if_pos c5]
    unfold toI
    simp only
    rw [gd_pos (by omega), w64_len _ _ (by omega), i_done (by omega), Option.bind_some]; rfl
  rw [if_neg c5, if_neg c5, i_take q s0, Option.bind_some]
end
end Go.Proofs.YtifomiglajcanaaGreatDoorE

namespace Go.Proofs.YtifomiglajcanaaGreatDoorE
open Go.Ev Go.RowKit
set_option linter.unusedVariables false
theorem ba_ext {a b : ByteArray} (h : a.data.toList = b.data.toList) : a = b := by
  cases a; cases b; simp at h; simp [h]
theorem ba_app (a b : ByteArray) : (a ++ b).data.toList = a.data.toList ++ b.data.toList := by simp
theorem dig_one : ∀ d : Fin 10, strOfNums [IntKind.u8.wrap (w64 (48 + (d.val : Int)))] = ⟨#[UInt8.ofNat (48 + d.val)]⟩ := by decide +kernel
theorem dig_nat (d : Nat) (h : d < 10) : strOfNums [IntKind.u8.wrap (w64 (48 + (d : Int)))] = ⟨#[UInt8.ofNat (48 + d)]⟩ := dig_one ⟨d, h⟩
theorem dec_l0 (d : Nat) : ∀ (n : Nat) (acc : ByteArray), n < 10 ^ d → d ≤ 18 → acc.size + d ≤ 1000 → ∃ r : ByteArray, r.data.toList = (if n = 0 then [] else Lib.decDigits n) ++ acc.data.toList ∧ ∀ K k, d < k → spec_Dec.l0 K k (n : Int) acc = some r := by
  induction d with
  | zero =>
    intro n acc h _ _
    have : n = 0 := by simp at h; exact h
    subst this
    refine ⟨acc, by simp, fun K k hk => ?_⟩
    obtain ⟨k, rfl⟩ := succ_of hk
    rw [spec_Dec.l0, if_neg (by simp)]
  | succ d ih =>
    intro n acc h hd hs
    by_cases hz : n = 0
    · subst hz
      refine ⟨acc, by simp, fun K k hk => ?_⟩
      obtain ⟨k, rfl⟩ := succ_of (show 0 < k by omega)
      rw [spec_Dec.l0, if_neg (by simp)]
    · have hb : (10 : Nat) ^ (d + 1) ≤ 10 ^ 18 := Nat.pow_le_pow_right (by omega) hd
      have h10 : (10 : Nat) ^ (d + 1) = 10 ^ d * 10 := Nat.pow_succ ..
      have hq : n / 10 < 10 ^ d := by rw [h10] at h; omega
      have hm : n % 10 < 10 := Nat.mod_lt _ (by omega)
      have e1 : Int.tmod (n : Int) 10 = ((n % 10 : Nat) : Int) := by rw [Int.tmod_eq_emod_of_nonneg (by omega)]; omega
      have e2 : w64 (Int.tdiv (n : Int) 10) = ((n / 10 : Nat) : Int) := by
        rw [Int.tdiv_eq_ediv_of_nonneg (by omega), w64_of (by omega) (by omega)]; omega
      have one : (⟨#[UInt8.ofNat (48 + n % 10)]⟩ : ByteArray).size = 1 := rfl
      obtain ⟨r, hr, he⟩ := ih (n / 10) (⟨#[UInt8.ofNat (48 + n % 10)]⟩ ++ acc) hq (by omega) (by rw [ByteArray.size_append, one]; omega)
      refine ⟨r, ?_, fun K k hk => ?_⟩
      · rw [hr, ba_app, if_neg hz]
        by_cases h9 : n < 10
        · rw [Lib.decDigits_one h9, if_pos (by omega), Nat.mod_eq_of_lt h9]; simp
        · have e9 : Lib.decDigits n = Lib.decDigits (n / 10) ++ [UInt8.ofNat (48 + n % 10)] := by rw [Lib.decDigits, dif_neg h9]
          rw [e9, if_neg (by omega)]; simp
      · obtain ⟨k, rfl⟩ := succ_of (show 0 < k by omega)
        rw [spec_Dec.l0, if_pos (by simp; omega)]
        simp only [jn]
        rw [if_neg (by omega), e1, e2, dig_nat _ hm, gd_pos (by rw [one]; omega)]
        exact he K k (by omega)
theorem spec_dec (n : Nat) (h : n < 10 ^ 18) (K : Nat) (hk : 20 < K) : spec_Dec.f K (n : Int) = some ⟨(Lib.itoa (n : Int)).toArray⟩ := by
  unfold spec_Dec.f Lib.itoa
  rw [if_neg (show ¬ (n : Int) < 0 by omega), Int.toNat_natCast]
  by_cases hz : n = 0
  · subst hz
    rw [if_pos (by rfl)]
    exact congrArg some (ba_ext (by simp [Lib.decDigits]))
  · rw [if_neg (by omega)]
    simp only [jn]
    obtain ⟨r, hr, he⟩ := dec_l0 18 n ⟨#[]⟩ h (by omega) (by show 0 + 18 ≤ 1000; omega)
    rw [he K K (by omega), Option.bind_some, if_neg (by omega)]
    rw [if_neg hz] at hr
    exact congrArg some (ba_ext (by rw [hr]; simp))

end Go.Proofs.YtifomiglajcanaaGreatDoorE

namespace Go.Proofs.YtifomiglajcanaaGreatDoorE
open Go.Ev Go.RowKit
set_option linter.unusedVariables false
set_option linter.unusedSimpArgs false
def decT (n : Int) : ByteArray := ⟨(Lib.itoa n).toArray⟩
def spT : ByteArray := ⟨#[32]⟩
def clT : ByteArray := ⟨#[41]⟩
def preT (v : Vl) : ByteArray := if v.Kind = 3 then ⟨#[40, 112, 97, 105, 114, 32]⟩ else ⟨#[40, 99, 111, 110, 115, 32]⟩
def atomT (v : Vl) (alt : ByteArray) : ByteArray := if v.Kind = 0 then decT v.N else if v.Kind = 1 then ⟨#[102, 117, 110]⟩ else if v.Kind = 2 then ⟨#[110, 105, 108]⟩ else if v.Kind = 5 then ⟨#[114, 101, 102]⟩ else alt
def shT (h : Hs) : Nat → Vl → ByteArray
  | 0, v => atomT v ⟨#[95]⟩
  | d + 1, v => atomT v ((((preT v ++ shT h d (cT h.Twos v.N).A) ++ spT) ++ shT h d (cT h.Twos v.N).B) ++ clT)
def bd : Nat → Nat
  | 0 => 30
  | d + 1 => 2 * bd d + 20
theorem decT_size (n : Int) (h0 : 0 ≤ n) (h1 : n ≤ 1000000) : (decT n).size ≤ 30 := by
  have := Lib.itoa_length_le n (by omega) (by omega)
  show (Lib.itoa n).toArray.size ≤ 30
  simp; omega
theorem vok_small {h : Hs} {v : Vl} (q : VOk h v) (c : h.Clos.length ≤ 100000) (t : h.Twos.length ≤ 100000) (r : h.Refs.length ≤ 100000) : 0 ≤ v.N ∧ v.N ≤ 100000 := by unfold VOk at q; omega
theorem sz3 (a b c : UInt8) : (⟨#[a, b, c]⟩ : ByteArray).size = 3 := rfl
theorem sz1 (a : UInt8) : (⟨#[a]⟩ : ByteArray).size = 1 := rfl
theorem sz6 (a b c d e f : UInt8) : (⟨#[a, b, c, d, e, f]⟩ : ByteArray).size = 6 := rfl
theorem preT_size (v : Vl) : (preT v).size = 6 := by unfold preT; split <;> rfl
theorem atomT_size {v : Vl} {alt : ByteArray} {n : Nat} (h0 : 0 ≤ v.N ∧ v.N ≤ 1000000) (hn : 30 ≤ n) (ha : alt.size ≤ n) : (atomT v alt).size ≤ n := by
  unfold atomT
  split
  · have := decT_size v.N h0.1 h0.2; omega
  split
  · rw [sz3]; omega
  split
  · rw [sz3]; omega
  split
  · rw [sz3]; omega
  · exact ha
theorem bd_le (d : Nat) : 30 ≤ bd d := by
  induction d with
  | zero => exact Nat.le_refl _
  | succ d ih => rw [bd]; omega
theorem shT_size {l : List Nd} {h : Hs} (o : HOk l h) (c : h.Clos.length ≤ 100000) (t : h.Twos.length ≤ 100000) (r : h.Refs.length ≤ 100000) : ∀ (d : Nat) (v : Vl), VOk h v → (shT h d v).size ≤ bd d := by
  intro d
  induction d with
  | zero => intro v q; have := vok_small q c t r; exact atomT_size ⟨this.1, by omega⟩ (Nat.le_refl _) (by rw [sz1]; decide)
  | succ d ih =>
    intro v q
    have hs := vok_small q c t r
    by_cases hk : v.Kind = 3 ∨ v.Kind = 4
    · have ht := vok_two q hk
      obtain ⟨qa, qb⟩ := o.twoI ht.1 ht.2
      have h1 := ih _ qa
      have h2 := ih _ qb
      refine atomT_size ⟨hs.1, by omega⟩ (bd_le _) ?_
      simp only [ByteArray.size_append, preT_size, bd]
      have e1 : spT.size = 1 := rfl
      have e2 : clT.size = 1 := rfl
      omega
    · unfold shT atomT
      unfold VOk at q
      have := bd_le (d + 1)
      by_cases k0 : v.Kind = 0
      · rw [if_pos k0]; have := decT_size v.N hs.1 (by omega); omega
      rw [if_neg k0]
      by_cases k1 : v.Kind = 1
      · rw [if_pos k1, sz3]; omega
      rw [if_neg k1]
      by_cases k2 : v.Kind = 2
      · rw [if_pos k2, sz3]; omega
      rw [if_neg k2]
      by_cases k5 : v.Kind = 5
      · rw [if_pos k5, sz3]; omega
      · omega
theorem bd4 (d : Nat) (h : d ≤ 4) : bd d ≤ 1000 := by
  rcases (by omega : d = 0 ∨ d = 1 ∨ d = 2 ∨ d = 3 ∨ d = 4) with rfl | rfl | rfl | rfl | rfl <;> decide
theorem i_dec (n : Int) (h0 : 0 ≤ n) (h1 : n ≤ 1000000) : impl_Dec.f n = some (decT n) := by
  unfold impl_Dec.f
  rw [if_pos (by omega)]; rfl
theorem s_dec (K : Nat) (hK : 100 ≤ K) (n : Int) (h0 : 0 ≤ n) (h1 : n ≤ 1000000) : spec_Dec.f K n = some (decT n) := by
  have := spec_dec n.toNat (by omega) K (by omega)
  rwa [nat_of h0] at this
theorem s_show {l : List Nd} {h : Hs} (o : HOk l h) (c : h.Clos.length ≤ 100000) (t : h.Twos.length ≤ 100000) (r : h.Refs.length ≤ 100000) (K : Nat) (hK : 100 ≤ K) : ∀ (k d : Nat) (v : Vl), d ≤ 4 → d < k → VOk h v → spec_l10Show.r K k h v (d : Int) = some (shT h d v) := by
  intro k
  induction k with
  | zero => intro d v _ hd; omega
  | succ k ih =>
    intro d v h4 hd q
    have hs := vok_small q c t r
    rw [spec_l10Show.r, spec_l10Show.b]
    have es : shT h d v = atomT v (match d with | 0 => ⟨#[95]⟩ | d + 1 => ((((preT v ++ shT h d (cT h.Twos v.N).A) ++ spT) ++ shT h d (cT h.Twos v.N).B) ++ clT)) := by cases d <;> rfl
    rw [es]
    unfold atomT
    by_cases k0 : v.Kind = 0
    · rw [if_pos k0, if_pos k0, s_dec K hK _ hs.1 (by omega)]; rfl
    rw [if_neg k0, if_neg k0]
    by_cases k1 : v.Kind = 1
    · rw [if_pos k1, if_pos k1]
    rw [if_neg k1, if_neg k1]
    by_cases k2 : v.Kind = 2
    · rw [if_pos k2, if_pos k2]
    rw [if_neg k2, if_neg k2]
    by_cases k5 : v.Kind = 5
    · rw [if_pos k5, if_pos k5]
    rw [if_neg k5, if_neg k5]
    cases d with
    | zero => rw [if_pos (by omega)]
    | succ d =>
      have hk : v.Kind = 3 ∨ v.Kind = 4 := by unfold VOk at q; omega
      have ht := vok_two q hk
      obtain ⟨qa, qb⟩ := o.twoI ht.1 ht.2
      have b1 := shT_size o c t r d _ qa
      have b2 := shT_size o c t r d _ qb
      have b3 := bd4 d (by omega)
      rw [if_neg (by omega), at_cT _ _ ht.1 ht.2, Option.bind_some, w64_of (by omega) (by omega), show (((d + 1 : Nat) : Int) - 1) = (d : Int) by omega, ih d _ (by omega) (by omega) qa, Option.bind_some, ih d _ (by omega) (by omega) qb, Option.bind_some]
      unfold preT
      by_cases k3 : v.Kind = 3
      · rw [if_pos k3, if_pos k3]
        rw [gd_pos (by rw [sz6]; omega), gd_pos (by simp only [ByteArray.size_append, sz6, sz1]; omega), gd_pos (by simp only [ByteArray.size_append, sz6, sz1]; omega), gd_pos (by simp only [ByteArray.size_append, sz6, sz1]; omega)]
        rfl
      · rw [if_neg k3, if_neg k3]
        rw [gd_pos (by rw [sz6]; omega), gd_pos (by simp only [ByteArray.size_append, sz6, sz1]; omega), gd_pos (by simp only [ByteArray.size_append, sz6, sz1]; omega), gd_pos (by simp only [ByteArray.size_append, sz6, sz1]; omega)]
        rfl
theorem i_show {l : List Nd} {h : Hs} (o : HOk l h) (c : h.Clos.length ≤ 100000) (t : h.Twos.length ≤ 100000) (r : h.Refs.length ≤ 100000) (K : Nat) : ∀ (k d : Nat) (v : Vl), d ≤ 4 → d < k → VOk h v → impl_Heap_show.r K k h v (d : Int) = some (shT h d v, h) := by
  intro k
  induction k with
  | zero => intro d v _ hd; omega
  | succ k ih =>
    intro d v h4 hd q
    have hs := vok_small q c t r
    rw [impl_Heap_show.r, impl_Heap_show.b]
    simp only [jn]
    have es : shT h d v = atomT v (match d with | 0 => ⟨#[95]⟩ | d + 1 => ((((preT v ++ shT h d (cT h.Twos v.N).A) ++ spT) ++ shT h d (cT h.Twos v.N).B) ++ clT)) := by cases d <;> rfl
    rw [es]
    unfold atomT
    by_cases k0 : v.Kind = 0
    · rw [if_pos k0, if_pos k0, i_dec _ hs.1 (by omega)]; rfl
    rw [if_neg k0, if_neg k0]
    by_cases k1 : v.Kind = 1
    · rw [if_pos k1, if_pos k1]
    rw [if_neg k1, if_neg k1]
    by_cases k2 : v.Kind = 2
    · rw [if_pos k2, if_pos k2]
    rw [if_neg k2, if_neg k2]
    by_cases k5 : v.Kind = 5
    · rw [if_pos k5, if_pos k5]
    rw [if_neg k5, if_neg k5]
    have hk : v.Kind = 3 ∨ v.Kind = 4 := by unfold VOk at q; omega
    cases d with
    | zero => rcases hk with k3 | k4 <;> simp [*]
    | succ d =>
      have ht := vok_two q hk
      obtain ⟨qa, qb⟩ := o.twoI ht.1 ht.2
      have b1 := shT_size o c t r d _ qa
      have b2 := shT_size o c t r d _ qb
      have b3 := bd4 d (by omega)
      have fin : ∀ w : ByteArray, w.size = 4 → (if ((d + 1 : Nat) : Int) = 0 then (some ((⟨#[95]⟩ : ByteArray), h)) else ((at_ h.Twos v.N).bind fun x10 => (gd ((⟨#[40]⟩ : ByteArray).size + w.size ≤ 9223372036854775807) (gd (((⟨#[40]⟩ : ByteArray) ++ w).size + (⟨#[32]⟩ : ByteArray).size ≤ 9223372036854775807) ((impl_Heap_show.r K k h x10.A (w64 (((d + 1 : Nat) : Int) - 1))).bind fun (y11, y12) => (gd ((((⟨#[40]⟩ : ByteArray) ++ w) ++ (⟨#[32]⟩ : ByteArray)).size + y11.size ≤ 9223372036854775807) (gd (((((⟨#[40]⟩ : ByteArray) ++ w) ++ (⟨#[32]⟩ : ByteArray)) ++ y11).size + (⟨#[32]⟩ : ByteArray).size ≤ 9223372036854775807) ((impl_Heap_show.r K k y12 x10.B (w64 (((d + 1 : Nat) : Int) - 1))).bind fun (y14, y15) => (gd ((((((⟨#[40]⟩ : ByteArray) ++ w) ++ (⟨#[32]⟩ : ByteArray)) ++ y11) ++ (⟨#[32]⟩ : ByteArray)).size + y14.size ≤ 9223372036854775807) (gd (((((((⟨#[40]⟩ : ByteArray) ++ w) ++ (⟨#[32]⟩ : ByteArray)) ++ y11) ++ (⟨#[32]⟩ : ByteArray)) ++ y14).size + (⟨#[41]⟩ : ByteArray).size ≤ 9223372036854775807) (some ((((((((⟨#[40]⟩ : ByteArray) ++ w) ++ (⟨#[32]⟩ : ByteArray)) ++ y11) ++ (⟨#[32]⟩ : ByteArray)) ++ y14) ++ (⟨#[41]⟩ : ByteArray)), y15)))))))))))) =
          some ((((((((⟨#[40]⟩ : ByteArray) ++ w) ++ (⟨#[32]⟩ : ByteArray)) ++ shT h d (cT h.Twos v.N).A) ++ spT) ++ shT h d (cT h.Twos v.N).B) ++ clT), h) := fun w hw => by
        rw [if_neg (by omega), at_cT _ _ ht.1 ht.2, Option.bind_some, gd_pos (by rw [sz1, hw]; omega), gd_pos (by simp only [ByteArray.size_append, sz1, hw]; omega), w64_of (by omega) (by omega), show (((d + 1 : Nat) : Int) - 1) = (d : Int) by omega, ih d _ (by omega) (by omega) qa]
        simp only [Option.bind_some]
        rw [gd_pos (by simp only [ByteArray.size_append, sz1, hw]; omega), gd_pos (by simp only [ByteArray.size_append, sz1, hw]; omega), ih d _ (by omega) (by omega) qb]
        simp only [Option.bind_some]
        rw [gd_pos (by simp only [ByteArray.size_append, sz1, hw]; omega), gd_pos (by simp only [ByteArray.size_append, sz1, hw]; omega)]
        rfl
      unfold preT
      by_cases k4 : v.Kind = 4
      · rw [if_pos k4, if_neg (show ¬ v.Kind = 3 by omega)]
        exact fin ⟨#[99, 111, 110, 115]⟩ rfl
      · rw [if_neg k4, if_pos (show v.Kind = 3 by omega)]
        exact fin ⟨#[112, 97, 105, 114]⟩ rfl
end Go.Proofs.YtifomiglajcanaaGreatDoorE

namespace Go.Proofs.YtifomiglajcanaaGreatDoorE
open Go.Ev Go.RowKit
set_option linter.unusedVariables false
set_option linter.unusedSimpArgs false
theorem pop_ok {l : List Nd} {m : Mc} (q : MOk l m) (d0 : m.d ≠ 0) : MOk l (popM m) := by
  refine ⟨q.h, fun f hf => q.f f (mem_take hf), q.v, ?_⟩
  rcases q.d with d | d | d
  · exact absurd d.1 d0
  · exact .inr (.inl d)
  · exact .inr (.inr d)
theorem pop_sm {m : Mc} (s : Sm m) : Sm (popM m) := ⟨s.e, s.c, s.t, s.r, by have := s.f; simp [popM]; omega, s.v⟩
theorem jn_19 {ρ : Type} (l : List Nd) (i : Int) (h0 : 0 ≤ i) (h1 : i < l.length) (p : Prop) [Decidable p] (f : Bool → Option ρ) : jn f (fun j => if p then ((at_ l i).bind fun x => (j (decide (x.Kind = 19)))) else j false) = f (decide (p ∧ (nd l i.toNat).Kind = 19)) := by
  rw [at_ndZ l i h0 h1]
  simp only [Option.bind_some]
  exact jn_two p _ f
theorem i_step {l : List Nd} (h : nodesOkB l = true) (hc : ClosedP l) {m : Mc} (q : MOk l m) (s : Sm m) (hf : m.d = 0 ∨ m.fr ≠ []) (K : Nat) (hK : 200000 ≤ K) : impl_machine_step.f K (toI l m) = some (outI l (if m.d = 0 then m else popM m) (stepM l m)) := by
  unfold impl_machine_step.f stepM
  by_cases d0 : m.d = 0
  · have k : LkOk l m.h m.node m.env := by
      rcases q.d with d | d | d
      · exact d.2
      · omega
      · omega
    rw [if_pos (show (toI l m).do_ = 0 from d0), if_pos d0, if_pos d0, i_looks h hc q k s K hK]; rfl
  · have hne := hf.resolve_left d0
    have hl := List.length_pos_iff.2 hne
    have sf := s.f
    have q' := pop_ok q d0
    have s' := pop_sm s
    have ft : FrOk l (popM m).h (topF m) := q.f _ (top_mem hne)
    rw [if_neg (show ¬ (toI l m).do_ = 0 from d0), if_neg d0, if_neg d0]
    have hw : w64 (((toI l m).frames.length : Int) - 1) = ((m.fr.length - 1 : Nat) : Int) := by
      show w64 ((m.fr.length : Int) - 1) = _
      rw [w64_of (by omega) (by omega)]; omega
    have ht : at_ (toI l m).frames ((m.fr.length - 1 : Nat) : Int) = some (topF m) := at_getD m.fr _ _ (by omega)
    rw [hw, ht, Option.bind_some, gd_pos ⟨by omega, by omega, by show ((m.fr.length - 1 : Nat) : Int) ≤ (m.fr.length : Int); omega⟩, Int.toNat_natCast]
    show (if m.d = 2 then jn (fun v6 => if v6 = true then ((impl_machine_pass.f K (toI l (popM m)) (topF m).node).bind fun y10 => ((impl_machine_cell.f K y10 (topF m).node 0 y10.v_ (topF m).env).bind fun (y12, y13) => ((at_ y13.l (topF m).node).bind fun x15 => ((impl_machine_look.f K y13 x15.B y12).bind fun y16 => (some y16))))) else (some (toI l (popM m)))) (fun j => if (topF m).wait = 1 then ((at_ l (topF m).node).bind fun x8 => (j (decide (x8.Kind = 19)))) else (j false)) else if (topF m).wait = 0 then ((impl_machine_done.f K (toI l (popM m)) (topF m).node m.v).bind fun y19 => some y19) else if (topF m).wait = 1 then ((impl_machine_first.f K (toI l (popM m)) (topF m)).bind fun y22 => some y22) else ((impl_machine_second.f K (toI l (popM m)) (topF m)).bind fun y24 => some y24)) = _
    have e1 := s'.e
    have e2 := s'.f
    have e3 := s'.v
    unfold backM
    rw [show (popM m).d = m.d from rfl, show (popM m).v = m.v from rfl, show (popM m).h = m.h from rfl] at *
    generalize topF m = f at *
    by_cases d2 : m.d = 2
    · rw [if_pos d2, if_pos d2, jn_19 l _ ft.n0 ft.n1]
      rw [bool_if]
      by_cases c : f.wait = 1 ∧ (nd l f.node.toNat).Kind = 19
      · rw [if_pos c, if_pos c]
        unfold toI
        rw [i_pass (by omega), Option.bind_some, i_cell (by show m.h.Envs.length ≤ _; omega)]
        simp only [Option.bind_some]
        rw [at_ndZ l _ ft.n0 ft.n1, Option.bind_some, i_look, Option.bind_some]; rfl
      · rw [if_neg c, if_neg c]; rfl
    rw [if_neg d2, if_neg d2]
    by_cases w0 : f.wait = 0
    · rw [if_pos w0, if_pos w0]
      unfold toI
      rw [i_done (by omega), Option.bind_some]; rfl
    rw [if_neg w0, if_neg w0]
    by_cases w1 : f.wait = 1
    · rw [if_pos w1, if_pos w1, i_first q' s' ft, Option.bind_some]
    · rw [if_neg w1, if_neg w1, i_second q' s' ft, Option.bind_some]
def emp : ByteArray := ⟨#[]⟩
def resI (r : Int × Mc × Nat) : impl_Result := ⟨r.1, if r.1 = 1 then shT r.2.1.h 4 r.2.1.v else if r.1 = 2 then decT r.2.1.v.N else emp, if r.1 = 1 then r.2.1.v.Kind else 0, (r.2.2 : Int), r.2.1.ev⟩
theorem sm_of {n : Nat} {m : Mc} (z : SzOk n m) (hn : n ≤ 10000) : Sm m := by
  obtain ⟨a, b, c, d, e, f⟩ := z
  exact ⟨by omega, by omega, by omega, by omega, by omega, by omega⟩
theorem i_run_l0 {l : List Nd} (h : nodesOkB l = true) (hc : ClosedP l) (K : Nat) (hK : 200000 ≤ K) : ∀ (n s : Nat) (m : Mc) (k : Nat), MOk l m → SzOk s m → s + n ≤ 5000 → n < k →
    ∃ vm vr, impl_Run.l0 ((s + n : Nat) : Int) K k (toI l m) ⟨3, emp, 0, (s : Int), []⟩ = some (vm, vr) ∧ (⟨vr.Kind, vr.Text, vr.Tag, vr.Steps, vm.events⟩ : impl_Result) = resI (runM l n s m) := by
  intro n
  induction n with
  | zero =>
    intro s m k q z hs hk
    obtain ⟨k, rfl⟩ := succ_of hk
    have sm := sm_of z (by omega)
    have hv := vok_small q.v sm.c sm.t sm.r
    rw [impl_Run.l0, runM]
    dsimp only
    have cond : ∀ f : Bool → Option (impl_machine × impl_Result), jn f (fun j => if (!(decide ((toI l m).do_ = 0))) = true then (j (decide (((toI l m).frames.length : Int) = 0))) else (j false)) = f (decide (endP m)) := fun f => by
      unfold jn endP
      show (if (!(decide (m.d = 0))) = true then f (decide ((m.fr.length : Int) = 0)) else f false) = _
      by_cases a : m.d = 0 <;> by_cases b : m.fr.length = 0 <;> simp [a, b]
    rw [cond, bool_if]
    by_cases he : endP m
    · rw [if_pos he, if_pos he]
      show ∃ vm vr, (impl_Dec.f m.v.N).bind _ = _ ∧ _
      rw [i_dec _ hv.1 (by omega), Option.bind_some]
      show ∃ vm vr, (if m.d = 1 then _ else _) = _ ∧ _
      unfold endK
      by_cases d1 : m.d = 1
      · rw [if_pos d1, if_pos d1]
        have := i_show q.h sm.c sm.t sm.r K K 4 m.v (by omega) (by omega) q.v
        show ∃ vm vr, (impl_Heap_show.r K K m.h m.v 4).bind _ = _ ∧ _
        rw [show (4 : Int) = ((4 : Nat) : Int) from rfl, this]
        exact ⟨_, _, rfl, rfl⟩
      · rw [if_neg d1, if_neg d1]
        exact ⟨_, _, rfl, rfl⟩
    · rw [if_neg he, if_neg he, if_pos (by omega)]
      exact ⟨_, _, rfl, rfl⟩
  | succ n ih =>
    intro s m k q z hs hk
    obtain ⟨k, rfl⟩ := succ_of (show 0 < k by omega)
    have sm := sm_of z (by omega)
    have hv := vok_small q.v sm.c sm.t sm.r
    rw [impl_Run.l0, runM]
    dsimp only
    have cond : ∀ f : Bool → Option (impl_machine × impl_Result), jn f (fun j => if (!(decide ((toI l m).do_ = 0))) = true then (j (decide (((toI l m).frames.length : Int) = 0))) else (j false)) = f (decide (endP m)) := fun f => by
      unfold jn endP
      show (if (!(decide (m.d = 0))) = true then f (decide ((m.fr.length : Int) = 0)) else f false) = _
      by_cases a : m.d = 0 <;> by_cases b : m.fr.length = 0 <;> simp [a, b]
    rw [cond, bool_if]
    by_cases he : endP m
    · rw [if_pos he, if_pos he]
      show ∃ vm vr, (impl_Dec.f m.v.N).bind _ = _ ∧ _
      rw [i_dec _ hv.1 (by omega), Option.bind_some]
      show ∃ vm vr, (if m.d = 1 then _ else _) = _ ∧ _
      unfold endK
      by_cases d1 : m.d = 1
      · rw [if_pos d1, if_pos d1]
        have := i_show q.h sm.c sm.t sm.r K K 4 m.v (by omega) (by omega) q.v
        show ∃ vm vr, (impl_Heap_show.r K K m.h m.v 4).bind _ = _ ∧ _
        rw [show (4 : Int) = ((4 : Nat) : Int) from rfl, this]
        exact ⟨_, _, rfl, rfl⟩
      · rw [if_neg d1, if_neg d1]
        exact ⟨_, _, rfl, rfl⟩
    · rw [if_neg he, if_neg he, if_neg (by omega), i_step h hc q sm (not_end he) K hK, Option.bind_some]
      cases hst : stepM l m with
      | none =>
        show ∃ vm vr, (if true = true then _ else _) = _ ∧ _
        rw [if_pos rfl, w64_of (by omega) (by omega)]
        refine ⟨_, _, rfl, ?_⟩
        show (⟨4, emp, 0, (s : Int) + 1, (if m.d = 0 then m else popM m).ev⟩ : impl_Result) = resI (4, m, s + 1)
        have e : (if m.d = 0 then m else popM m).ev = m.ev := by split <;> rfl
        rw [e]; rfl
      | some m' =>
        show ∃ vm vr, (if false = true then _ else impl_Run.l0 ((s + (n + 1) : Nat) : Int) K k (toI l m') ⟨3, emp, 0, w64 ((s : Int) + 1), []⟩) = _ ∧ _
        rw [if_neg (by simp), w64_of (by omega) (by omega)]
        have := ih (s + 1) m' k (step_ok h hc q (not_end he) hst) (sz_step z hst) (by omega) (by omega)
        rw [show s + 1 + n = s + (n + 1) by omega, show ((s + 1 : Nat) : Int) = (s : Int) + 1 by omega] at this
        exact this
/-! ### programs without free names -/
theorem free_nil (l : List Nd) : ∀ (d i : Nat) (y : List ByteArray), freeFrom l d i y = [] ↔ y = [] ∧ ∀ j, i ≤ j → j < i + d → ¬ ((nd l j).Kind = 1 ∧ (binderB l j).Node < 0)
  | 0, i, y => by simp [freeFrom]; intro _ j h1 h2; omega
  | d + 1, i, y => by
    rw [freeFrom, free_nil l d (i + 1)]
    by_cases c : (nd l i).Kind = 1 ∧ (binderB l i).Node < 0
    · rw [if_pos c]
      constructor
      · rintro ⟨h, _⟩; simp at h
      · rintro ⟨_, h⟩; exact absurd c (h i (by omega) (by omega))
    · rw [if_neg c]
      constructor
      · rintro ⟨h1, h2⟩
        refine ⟨h1, fun j a b => ?_⟩
        by_cases e : j = i
        · subst e; exact c
        · exact h2 j (by omega) (by omega)
      · rintro ⟨h1, h2⟩
        exact ⟨h1, fun j a b => h2 j (by omega) (by omega)⟩
theorem closed_iff (l : List Nd) : freeFrom l l.length 0 [] = [] ↔ ClosedP l := by
  rw [free_nil]
  constructor
  · rintro ⟨_, h⟩ i hi h1
    have := h i (by omega) (by omega)
    exact Classical.byContradiction fun e => this ⟨h1, by omega⟩
  · intro h
    exact ⟨rfl, fun j _ hj c => by have := h j (by omega) c.1; omega⟩
def closedB (l : List Nd) : Bool := nodesOkB l && decide (freeFrom l l.length 0 [] = [])
theorem closedB_iff (l : List Nd) : closedB l = true ↔ nodesOkB l = true ∧ ClosedP l := by
  unfold closedB
  rw [Bool.and_eq_true, decide_eq_true_iff, closed_iff]
theorem any_nil (u w : List ByteArray) (h : ∀ t, anyT u t = anyT w t) : u = [] ↔ w = [] := by
  have one : ∀ a b : List ByteArray, (∀ t, anyT a t = anyT b t) → a = [] → b = [] := fun a b h e => by
    cases b with
    | nil => rfl
    | cons x b =>
      have := h x.toList
      rw [e] at this
      simp [anyT] at this
  exact ⟨one u w h, one w u fun t => (h t).symm⟩
theorem i_closed (l : List Nd) (hl : l.length ≤ 1048576) (hsm : ∀ n ∈ l, small n) (K : Nat) (hK : big ≤ K) : impl_Closed.f K l = some (closedB l) := by
  unfold impl_Closed.f closedB
  rw [impl_nodesOk l hl hsm K hK, Option.bind_some]
  cases h : nodesOkB l with
  | false => rfl
  | true =>
    obtain ⟨o, e, _, h2⟩ := impl_free h hsm K hK
    rw [if_pos rfl, e, Option.bind_some, Bool.true_and]
    have := any_nil _ _ h2
    congr 1
    rw [decide_eq_decide, ← this]
    simp
theorem i_run {l : List Nd} (hl : l.length ≤ 1048576) (hsm : ∀ n ∈ l, small n) (f : Int) (K : Nat) (hK : big ≤ K) : impl_Run.f K l f = some (if closedB l = true ∧ inB f 0 3000 = true then resI (runM l f.toNat 0 (startM l)) else ⟨0, emp, 0, 0, []⟩) := by
  unfold impl_Run.f
  have hK' := hK
  unfold big at hK'
  simp only [jn]
  rw [i_closed l hl hsm K hK, Option.bind_some]
  cases hcl : closedB l with
  | false =>
    rw [if_pos (show (!false) = true from rfl), if_pos trivial, if_neg (by simp)]; rfl
  | true =>
    rw [if_neg (by simp), impl_inB, Option.bind_some]
    cases hin : inB f 0 3000 with
    | false => rw [if_pos (show (!false) = true from rfl), if_neg (by simp)]; rfl
    | true =>
      rw [if_neg (by simp), if_pos ⟨rfl, rfl⟩]
      obtain ⟨h, hc⟩ := (closedB_iff l).1 hcl
      have hlen := ok_len h
      rw [impl_bindersL h K (by omega), Option.bind_some]
      unfold inB at hin
      simp only [Bool.and_eq_true, decide_eq_true_eq] at hin
      have e0 : impl_machine_look.f K ⟨⟨[], [], [], []⟩, l, bindersL l, 0, 0, 0, ⟨0, 0⟩, [], [], false⟩ (w64 ((l.length : Int) - 1)) (-1) = some (toI l (startM l)) := by
        rw [w64_of (by omega) (by omega)]; rfl
      rw [e0, Option.bind_some]
      obtain ⟨q, z⟩ := start_ok h
      obtain ⟨vm, vr, e, r⟩ := i_run_l0 h hc K (by omega) f.toNat 0 (startM l) K q z (by omega) (by omega)
      rw [show (((0 + f.toNat : Nat)) : Int) = f by omega, show (((0 : Nat)) : Int) = 0 from rfl] at e
      show (Option.bind (impl_Run.l0 f K K (toI l (startM l)) ⟨3, emp, 0, 0, []⟩) _) = _
      rw [e, Option.bind_some]
      exact congrArg some r
end Go.Proofs.YtifomiglajcanaaGreatDoorE
