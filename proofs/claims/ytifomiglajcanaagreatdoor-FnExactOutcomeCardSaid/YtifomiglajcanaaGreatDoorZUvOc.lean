/- How a program ends, as a text: the program's and the reference's are one. -/
import Derived.Test.YtifomiglajcanaaGreatDoorZUvMi2
set_option linter.unusedSimpArgs false
set_option linter.unusedVariables false
namespace Go.Proofs.YtifomiglajcanaaGreatDoorE
open Go.Ev Go.RowKit
set_option linter.unusedVariables false
set_option linter.unusedSimpArgs false
def stg (w : Int) : Int := if w = 0 then 2 else if w = 1 then 1 else 3
def cvF (f : Fr) : spec_l11Frame := ⟨f.node, f.env, f.v_, stg f.wait⟩
def toS (m : Mc) : spec_l11State := ⟨m.d, m.node, m.env, m.v, m.fr.map cvF, m.h, m.ev, false⟩
def bad (m : Mc) (o : Option spec_l11State) : Prop := ∃ s F, o = some s ∧ s.stuck = true ∧ s.ev = m.ev ++ F
section
variable {K : Nat} {h : Hs} {d n e : Int} {v : Vl} {fr : List spec_l11Frame} {ev : List Evt} {b : Bool}
theorem s_done (hv : ev.length ≤ 1000000) (i : Int) (x : Vl) : spec_l11Done.f K ⟨d, n, e, v, fr, h, ev, b⟩ i x = some ⟨1, n, e, x, fr, h, ev ++ [⟨2, i, x.Kind⟩], b⟩ := by
  unfold spec_l11Done.f
  rw [gd_pos (by simp only; omega)]; rfl
theorem s_push (hv : fr.length ≤ 1000000) (f : spec_l11Frame) : spec_l11Push.f K ⟨d, n, e, v, fr, h, ev, b⟩ f = some ⟨d, n, e, v, fr ++ [f], h, ev, b⟩ := by
  unfold spec_l11Push.f
  rw [gd_pos (by simp only; omega)]
theorem s_bind (hv : h.Envs.length ≤ 1000000) (i r : Int) (x : Vl) (z : Int) : spec_l11Bind.f K ⟨d, n, e, v, fr, h, ev, b⟩ i r x z = some (elen h, ⟨d, n, e, v, fr, hE h ⟨i, r, x, z⟩, ev, b⟩) := by
  unfold spec_l11Bind.f
  rw [gd_pos (by simp only; omega)]
  simp only [w64_len _ _ hv]; rfl
theorem s_two (hv : h.Twos.length ≤ 1000000) (k : Int) (x y : Vl) : spec_l11Two.f K ⟨d, n, e, v, fr, h, ev, b⟩ k x y = some (⟨k, (h.Twos.length : Int)⟩, ⟨d, n, e, v, fr, hT h ⟨x, y⟩, ev, b⟩) := by
  unfold spec_l11Two.f
  rw [gd_pos (by simp only; omega)]
  simp only [w64_len _ _ hv]; rfl
theorem s_look (x z : Int) : spec_l11Look.f K ⟨d, n, e, v, fr, h, ev, b⟩ x z = some ⟨0, x, z, v, fr, h, ev, b⟩ := rfl
end
theorem s_clo {cl : List impl_Clo} (hv : cl.length ≤ 1000000) (a b : Int) : spec_l11Clo_k.f cl a b = some (⟨1, (cl.length : Int)⟩, cl ++ [⟨a, b⟩]) := by
  unfold spec_l11Clo_k.f
  rw [gd_pos (by omega), w64_len _ _ hv]
theorem s_look_l0 {h : Hs} (o : EOk h.Envs) (b : Bi) (K : Nat) : ∀ (k : Nat) (e : Int), e < h.Envs.length → (e + 1).toNat < k → spec_l10Look.l0 h b K k e = some (match lkp h.Envs b e with | some v => .inl (v, true) | none => .inr ()) := by
  intro k
  induction k with
  | zero => intro e _ h0; omega
  | succ k ih =>
    intro e he hk
    rw [spec_l10Look.l0]
    by_cases h0 : e ≥ 0
    · rw [if_pos h0, at_cE _ _ h0 he, Option.bind_some, lkp_at o b e h0 he, jn_two, bool_if]
      have hn := o.at h0 he
      by_cases c : (cE h.Envs e).Node = b.Node ∧ (cE h.Envs e).Role = b.Role
      · rw [if_pos c, if_pos c]
      · rw [if_neg c, if_neg c]; exact ih _ (by omega) (by omega)
    · rw [if_neg h0, lkp_neg _ _ _ (by omega)]
theorem s_lookUp {h : Hs} (o : EOk h.Envs) (b : Bi) (e : Int) (he : e < h.Envs.length) (K : Nat) (hK : h.Envs.length < K) {v : Vl} (q : lkp h.Envs b e = some v) : spec_l10Look.f K h e b = some (v, true) := by
  unfold spec_l10Look.f
  simp only [jn]
  rw [s_look_l0 o b K K e he (by omega), q]; rfl
theorem set_last {α : Type} (E : List α) (c c' : α) : (E ++ [c]).set E.length c' = E ++ [c'] := by simp
theorem s_eval {l : List Nd} (h : nodesOkB l = true) (hsm : ∀ n ∈ l, small n) (hc : ClosedP l) {m : Mc} (q : MOk l m) (k : LkOk l m.h m.node m.env) (s : Sm m) (K : Nat) (hK : big ≤ K) : spec_l11Eval.f K (toS m) l = some (toS (lookM l m)) := by
  obtain ⟨x0, x1, e0, e1, cov⟩ := k
  obtain ⟨se, sc, st, sr, sf, sv⟩ := s
  have hK' := hK
  unfold big at hK'
  have hx : m.node.toNat < l.length := by omega
  have hn := nat_of x0
  unfold spec_l11Eval.f lookM
  rw [show (toS m).node = m.node from rfl, at_ndZ l m.node x0 x1, Option.bind_some]
  generalize hnn : nd l m.node.toNat = nn
  have fl : (m.fr.map cvF).length ≤ 1000000 := by rw [List.length_map]; omega
  by_cases h1 : nn.Kind = 1
  · have hb := hc _ hx (by rw [hnn]; exact h1)
    have hv : Vis l m.node (binderB l m.node.toNat) := by
      unfold binderB at hb ⊢
      rw [hnn, if_pos h1, hn] at hb ⊢
      exact up_vis l _ _ _ hb
    obtain ⟨v, hv⟩ := cov _ hv
    have ha := spec_binder h hsm m.node.toNat hx K hK
    rw [hn] at ha
    simp only [if_neg (show ¬ nn.Kind = 2 by omega), if_neg (show ¬ nn.Kind = 12 by omega), if_pos h1]
    rw [ha, Option.bind_some, show (toS m).h_ = m.h from rfl, show (toS m).env = m.env from rfl, s_lookUp q.h.eo _ _ e1 K (by omega) hv, Option.bind_some, hv]
    unfold toS
    simp only [jn, Bool.not_true, Bool.false_eq_true, if_false]
    rw [s_done (by omega), Option.bind_some]; rfl
  simp only [if_neg h1]
  by_cases h2 : nn.Kind = 2
  · simp only [if_pos h2]
    unfold toS
    rw [s_done (by omega), Option.bind_some]; rfl
  simp only [if_neg h2]
  by_cases h12 : nn.Kind = 12
  · simp only [if_pos h12]
    unfold toS
    rw [s_done (by omega), Option.bind_some]; rfl
  simp only [if_neg h12]
  by_cases h3 : nn.Kind = 3
  · simp only [if_pos h3]
    unfold toS
    dsimp only
    rw [s_clo (by omega)]
    simp only [Option.bind_some]
    rw [s_done (by omega), Option.bind_some]; rfl
  simp only [if_neg h3]
  by_cases h6 : nn.Kind = 6
  · simp only [if_pos h6]
    unfold toS
    dsimp only
    rw [s_bind (by omega)]
    simp only [Option.bind_some]
    rw [s_clo (by simp only [hE]; omega)]
    simp only [Option.bind_some]
    have ea : at_ (hE m.h ⟨m.node, 0, ⟨0, 0⟩, m.env⟩).Envs (elen m.h) = some ⟨m.node, 0, ⟨0, 0⟩, m.env⟩ := by
      have := at_cE (hE m.h ⟨m.node, 0, ⟨0, 0⟩, m.env⟩).Envs (elen m.h) (by unfold elen; omega) (by unfold elen hE; simp; omega)
      rw [this]
      exact congrArg some (cE_new _ _)
    rw [ea, Option.bind_some, s_push fl, Option.bind_some, s_look, Option.bind_some]
    have es : (hE m.h ⟨m.node, 0, ⟨0, 0⟩, m.env⟩).Envs.set (elen m.h).toNat ⟨m.node, 0, ⟨1, (hE m.h ⟨m.node, 0, ⟨0, 0⟩, m.env⟩).Clos.length⟩, m.env⟩ = m.h.Envs ++ [⟨m.node, 0, ⟨1, m.h.Clos.length⟩, m.env⟩] := by
      unfold elen hE
      rw [Int.toNat_natCast]
      exact set_last _ _ _
    rw [es]
    unfold lkM
    simp only [List.map_append]
    rfl
  simp only [if_neg h6]
  unfold toS
  dsimp only
  rw [s_push fl, Option.bind_some, s_look, Option.bind_some]
  unfold lkM
  simp only [List.map_append]
  rfl
theorem jn_10 {ρ : Type} (k : Int) (f : Bool → Option ρ) : jn f (fun j => if k = 10 then j true else j (decide (k = 11))) = f (decide (k = 10 ∨ k = 11)) := by
  unfold jn
  by_cases a : k = 10 <;> by_cases b : k = 11 <;> simp [a, b]
end Go.Proofs.YtifomiglajcanaaGreatDoorE

namespace Go.Proofs.YtifomiglajcanaaGreatDoorE
open Go.Ev Go.RowKit
set_option linter.unusedVariables false
set_option linter.unusedSimpArgs false
/-- What the reference answers, where the neutral machine answers o. -/
def Ans (m : Mc) (r : Option spec_l11State) : Option Mc → Prop
  | some m' => r = some (toS m')
  | none => bad m r
theorem bad_mk {m : Mc} {r : Option spec_l11State} (s : spec_l11State) (h : r = some s) (h1 : s.stuck = true) (F : List Evt) (h2 : s.ev = m.ev ++ F) : Ans m r none := ⟨s, F, h, h1, h2⟩
section
variable {l : List Nd} {m : Mc} {K : Nat}
theorem s_first (q : MOk l m) (s : Sm m) {f : Fr} (hf : FrOk l m.h f) (hk : ¬ leafK (nd l f.node.toNat).Kind) (hr : 1 ≤ (nd l f.node.toNat).Kind ∧ (nd l f.node.toNat).Kind ≤ 19) : Ans m (spec_l11First.f K (toS m) l (cvF f) m.v) (firstM l m f) := by
  obtain ⟨se, sc, st, sr, sf, sv⟩ := s
  have fl : (m.fr.map cvF).length ≤ 1000000 := by rw [List.length_map]; omega
  have fl1 : ∀ g : spec_l11Frame, (m.fr.map cvF ++ [g]).length ≤ 1000000 := fun g => by rw [List.length_append, List.length_map, List.length_singleton]; omega
  unfold spec_l11First.f firstM
  rw [show (cvF f).node = f.node from rfl, show (cvF f).env = f.env from rfl, at_ndZ l _ hf.n0 hf.n1, Option.bind_some]
  rw [jn_five, jn_10]
  simp only [bool_if]
  generalize hn : nd l f.node.toNat = n at hk hr ⊢
  by_cases c0 : five n.Kind
  · rw [if_pos c0, if_pos c0]
    unfold toS
    rw [s_push fl, Option.bind_some, s_look, Option.bind_some]
    show _ = some (toS _)
    unfold toS lkM
    simp only [List.map_append]; rfl
  rw [if_neg c0, if_neg c0]
  by_cases c5 : n.Kind = 5
  · rw [if_pos c5, if_pos c5]
    unfold toS
    rw [s_push fl, Option.bind_some, s_bind (by omega)]
    simp only [Option.bind_some]
    rw [s_look, Option.bind_some]
    show _ = some (toS _)
    unfold toS lkM
    simp only [List.map_append]; rfl
  rw [if_neg c5, if_neg c5]
  by_cases c19 : n.Kind = 19
  · rw [if_pos c19, if_pos c19]
    unfold toS
    rw [s_done (by omega), Option.bind_some]; rfl
  rw [if_neg c19, if_neg c19]
  by_cases c7 : n.Kind = 7
  · rw [if_pos c7]
    unfold jn toS
    simp only [Bool.false_eq_true, if_false]
    rw [s_push fl, Option.bind_some]
    by_cases v0 : m.v.Kind = 0
    · rw [if_pos (show n.Kind = 7 ∧ m.v.Kind = 0 from ⟨c7, v0⟩), decide_eq_true v0]
      by_cases z : m.v.N = 0
      · rw [decide_eq_true z, if_neg (by simp), s_look, Option.bind_some, if_pos z]
        show _ = some (toS _)
        unfold toS lkM
        simp only [List.map_append]; rfl
      · rw [decide_eq_false z, if_pos (by simp), s_look, Option.bind_some, if_neg z]
        show _ = some (toS _)
        unfold toS lkM
        simp only [List.map_append]; rfl
    · rw [if_neg (show ¬ (n.Kind = 7 ∧ m.v.Kind = 0) from fun c => v0 c.2), if_neg (show ¬ (n.Kind = 14 ∧ isL m.v) from fun c => by omega), if_neg (show ¬ n.Kind = 15 by omega), decide_eq_false v0]
      have tk : takeM l m f = none := by
        unfold takeM
        simp only [hn]
        rw [if_neg (by omega), if_neg (by omega), if_neg (by omega), if_neg (by omega)]
      rw [tk]
      by_cases z : m.v.N = 0
      · rw [decide_eq_true z, if_neg (by simp), s_look, Option.bind_some]
        exact bad_mk _ rfl rfl [] (by simp)
      · rw [decide_eq_false z, if_pos (by simp), s_look, Option.bind_some]
        exact bad_mk _ rfl rfl [] (by simp)
  rw [if_neg c7, if_neg (show ¬ (n.Kind = 7 ∧ m.v.Kind = 0) from fun c => c7 c.1)]
  by_cases c14 : n.Kind = 14
  · rw [if_pos c14]
    unfold toS
    rw [s_push fl, Option.bind_some]
    by_cases v4 : m.v.Kind = 4
    · have ht := vok_two q.v (.inr v4)
      rw [decide_eq_true v4, if_neg (by simp)]
      dsimp only
      rw [at_cT _ _ ht.1 ht.2, Option.bind_some, s_bind (by omega)]
      simp only [Option.bind_some]
      rw [show (hE m.h ⟨f.node, 0, (cT m.h.Twos m.v.N).A, f.env⟩).Twos = m.h.Twos from rfl, at_cT _ _ ht.1 ht.2, Option.bind_some, s_bind (by simp only [hE, List.length_append, List.length_singleton]; omega)]
      simp only [Option.bind_some]
      rw [s_look, Option.bind_some, if_pos (show n.Kind = 14 ∧ isL m.v from ⟨c14, .inr v4⟩)]
      show _ = some (toS _)
      unfold matchM
      rw [hn]
      simp only [if_neg (show ¬ m.v.Kind = 2 by omega)]
      have e : elen (hE m.h ⟨f.node, 0, (cT m.h.Twos m.v.N).A, f.env⟩) = elen m.h + 1 := by unfold elen hE; simp
      unfold toS lkM
      simp only [List.map_append, e]; rfl
    · rw [decide_eq_false v4, if_pos (by simp)]
      unfold jn
      simp only [Bool.false_eq_true, if_false]
      rw [s_look, Option.bind_some]
      by_cases v2 : m.v.Kind = 2
      · rw [if_pos (show n.Kind = 14 ∧ isL m.v from ⟨c14, .inl v2⟩), decide_eq_true v2]
        show _ = some (toS _)
        unfold matchM
        rw [hn]
        simp only [if_pos v2]
        unfold toS lkM
        simp only [List.map_append]; rfl
      · have tk : takeM l m f = none := by
          unfold takeM
          simp only [hn]
          rw [if_neg (by omega), if_neg (by omega), if_neg (by omega), if_neg (by omega)]
        rw [if_neg (show ¬ (n.Kind = 14 ∧ isL m.v) from fun c => by have := c.2; unfold isL at this; omega), if_neg (show ¬ n.Kind = 15 by omega), tk, decide_eq_false v2]
        exact bad_mk _ rfl rfl [] (by simp)
  rw [if_neg c14, if_neg (show ¬ (n.Kind = 14 ∧ isL m.v) from fun c => c14 c.1)]
  by_cases c10 : n.Kind = 10 ∨ n.Kind = 11
  · rw [if_pos c10, if_neg (show ¬ n.Kind = 15 by omega)]
    unfold takeM
    simp only [hn]
    by_cases v3 : m.v.Kind = 3
    · have ht := vok_two q.v (.inl v3)
      rw [decide_eq_true v3, if_neg (by simp)]
      by_cases a : n.Kind = 10
      · rw [if_pos a, if_pos (show n.Kind = 10 ∧ m.v.Kind = 3 from ⟨a, v3⟩)]
        unfold toS
        dsimp only
        rw [at_cT _ _ ht.1 ht.2, Option.bind_some, s_done (by omega), Option.bind_some]; rfl
      · rw [if_neg a, if_neg (show ¬ (n.Kind = 10 ∧ m.v.Kind = 3) from fun c => a c.1), if_pos (show n.Kind = 11 ∧ m.v.Kind = 3 from ⟨by omega, v3⟩)]
        unfold toS
        dsimp only
        rw [at_cT _ _ ht.1 ht.2, Option.bind_some, s_done (by omega), Option.bind_some]; rfl
    · rw [decide_eq_false v3, if_pos (by simp), if_neg (show ¬ (n.Kind = 10 ∧ m.v.Kind = 3) from fun c => v3 c.2), if_neg (show ¬ (n.Kind = 11 ∧ m.v.Kind = 3) from fun c => v3 c.2), if_neg (show ¬ (n.Kind = 16 ∧ m.v.Kind = 5) by omega), if_neg (show ¬ (n.Kind = 18 ∧ m.v.Kind = 0) by omega)]
      exact bad_mk _ rfl rfl [] (by simp [toS])
  rw [if_neg c10]
  by_cases c15 : n.Kind = 15
  · rw [if_pos c15, if_pos c15]
    unfold toS
    dsimp only
    rw [gd_pos (by omega), w64_len _ _ (by omega), s_done (by omega), Option.bind_some]; rfl
  rw [if_neg c15, if_neg c15]
  unfold takeM
  simp only [hn]
  rw [if_neg (show ¬ (n.Kind = 10 ∧ m.v.Kind = 3) by omega), if_neg (show ¬ (n.Kind = 11 ∧ m.v.Kind = 3) by omega)]
  by_cases c16 : n.Kind = 16
  · rw [if_pos c16]
    by_cases v5 : m.v.Kind = 5
    · have ht := vok_ref q.v v5
      rw [decide_eq_true v5, if_neg (by simp), if_pos (show n.Kind = 16 ∧ m.v.Kind = 5 from ⟨c16, v5⟩)]
      unfold toS
      dsimp only
      rw [at_cR _ _ ht.1 ht.2, Option.bind_some, s_done (by omega), Option.bind_some]; rfl
    · rw [decide_eq_false v5, if_pos (by simp), if_neg (show ¬ (n.Kind = 16 ∧ m.v.Kind = 5) from fun c => v5 c.2), if_neg (show ¬ (n.Kind = 18 ∧ m.v.Kind = 0) by omega)]
      exact bad_mk _ rfl rfl [] (by simp [toS])
  rw [if_neg c16, if_neg (show ¬ (n.Kind = 16 ∧ m.v.Kind = 5) from fun c => c16 c.1)]
  have c18 : n.Kind = 18 := by unfold leafK at hk; unfold five at c0; omega
  rw [if_pos c18]
  unfold jn toS
  simp only [Bool.false_eq_true, if_false]
  by_cases v0 : m.v.Kind = 0
  · rw [if_pos (show n.Kind = 18 ∧ m.v.Kind = 0 from ⟨c18, v0⟩), decide_eq_true v0]; rfl
  · rw [if_neg (show ¬ (n.Kind = 18 ∧ m.v.Kind = 0) from fun c => v0 c.2), decide_eq_false v0]
    exact bad_mk _ rfl rfl [] (by simp)
theorem s_prim (K : Nat) (op a b : Int) : ∃ r, spec_l11Prim.f K op a b = some r ∧ ((0 ≤ a ∧ a ≤ 65535) → (0 ≤ b ∧ b ≤ 65535) → r = primN op a b) := by
  unfold spec_l11Prim.f primN
  by_cases h0 : op = 0
  · rw [if_pos h0, if_pos h0]
    exact ⟨_, rfl, fun ha hb => by rw [w64_of (by omega) (by omega)]⟩
  rw [if_neg h0, if_neg h0]
  by_cases h1 : op = 1
  · rw [if_pos h1, if_pos h1]
    exact ⟨_, rfl, fun ha hb => by rw [w64_of (x := a - b) (by omega) (by omega), w64_of (by omega) (by omega)]⟩
  rw [if_neg h1, if_neg h1]
  by_cases h2 : op = 2
  · rw [if_pos h2, if_pos h2]; by_cases q : a < b <;> simp [q]
  rw [if_neg h2, if_neg h2]
  by_cases q : a = b <;> simp [q]
theorem s_second (q : MOk l m) (s : Sm m) {f : Fr} (hf : FrOk l m.h f) (hk : five (nd l f.node.toNat).Kind) : Ans m (spec_l11Second.f K (toS m) l (cvF f) m.v) (secondM l m f) := by
  obtain ⟨se, sc, st, sr, sf, sv⟩ := s
  have fl : (m.fr.map cvF).length ≤ 1000000 := by rw [List.length_map]; omega
  unfold spec_l11Second.f secondM
  rw [show (cvF f).node = f.node from rfl, show (cvF f).val = f.v_ from rfl, at_ndZ l _ hf.n0 hf.n1, Option.bind_some]
  generalize hn : nd l f.node.toNat = n at hk ⊢
  by_cases c9 : n.Kind = 9
  · rw [if_pos c9, if_pos c9]
    unfold toS
    rw [s_two (by omega)]
    simp only [Option.bind_some]
    rw [s_done (by omega), Option.bind_some]; rfl
  rw [if_neg c9, if_neg c9]
  by_cases c13 : n.Kind = 13
  · rw [if_pos c13]
    unfold jn toS
    simp only [Bool.false_eq_true, if_false]
    by_cases v4 : m.v.Kind = 4
    · rw [decide_eq_true v4, if_neg (by simp), s_two (by omega)]
      simp only [Option.bind_some]
      rw [s_done (by omega), Option.bind_some, if_pos (show n.Kind = 13 ∧ isL m.v from ⟨c13, .inr v4⟩)]; rfl
    · rw [decide_eq_false v4, if_pos (by simp), s_two (by omega)]
      simp only [Option.bind_some]
      rw [s_done (by omega), Option.bind_some]
      by_cases v2 : m.v.Kind = 2
      · rw [decide_eq_true v2, if_pos (show n.Kind = 13 ∧ isL m.v from ⟨c13, .inl v2⟩)]; rfl
      · rw [decide_eq_false v2, if_neg (show ¬ (n.Kind = 13 ∧ isL m.v) from fun c => by have := c.2; unfold isL at this; omega), if_neg (show ¬ (n.Kind = 17 ∧ f.v_.Kind = 5) by omega), if_neg (show ¬ (n.Kind = 8 ∧ f.v_.Kind = 0 ∧ m.v.Kind = 0) by omega), if_neg (show ¬ (n.Kind = 4 ∧ f.v_.Kind = 1) by omega)]
        exact bad_mk _ rfl rfl [⟨2, f.node, 4⟩] rfl
  rw [if_neg c13, if_neg (show ¬ (n.Kind = 13 ∧ isL m.v) from fun c => c13 c.1)]
  by_cases c17 : n.Kind = 17
  · rw [if_pos c17]
    by_cases v5 : f.v_.Kind = 5
    · have ht := vok_ref hf.v v5
      rw [decide_eq_true v5, if_neg (by simp), if_pos (show n.Kind = 17 ∧ f.v_.Kind = 5 from ⟨c17, v5⟩)]
      unfold toS
      dsimp only
      rw [at_cR _ _ ht.1 ht.2, Option.bind_some, s_done (by omega), Option.bind_some]; rfl
    · rw [decide_eq_false v5, if_pos (by simp), if_neg (show ¬ (n.Kind = 17 ∧ f.v_.Kind = 5) from fun c => v5 c.2), if_neg (show ¬ (n.Kind = 8 ∧ f.v_.Kind = 0 ∧ m.v.Kind = 0) by omega), if_neg (show ¬ (n.Kind = 4 ∧ f.v_.Kind = 1) by omega)]
      exact bad_mk _ rfl rfl [] (by simp [toS])
  rw [if_neg c17, if_neg (show ¬ (n.Kind = 17 ∧ f.v_.Kind = 5) from fun c => c17 c.1)]
  by_cases c8 : n.Kind = 8
  · rw [if_pos c8]
    obtain ⟨r, e, he⟩ := s_prim K n.N f.v_.N m.v.N
    unfold jn toS
    simp only [Bool.false_eq_true, if_false]
    by_cases a0 : f.v_.Kind = 0
    · rw [decide_eq_true a0, if_neg (by simp), e, Option.bind_some, s_done (by omega), Option.bind_some]
      by_cases b0 : m.v.Kind = 0
      · rw [decide_eq_true b0, if_pos (show n.Kind = 8 ∧ f.v_.Kind = 0 ∧ m.v.Kind = 0 from ⟨c8, a0, b0⟩), he (vok_int hf.v a0) (vok_int q.v b0)]; rfl
      · rw [decide_eq_false b0, if_neg (show ¬ (n.Kind = 8 ∧ f.v_.Kind = 0 ∧ m.v.Kind = 0) from fun c => b0 c.2.2), if_neg (show ¬ (n.Kind = 4 ∧ f.v_.Kind = 1) by omega)]
        exact bad_mk _ rfl rfl [⟨2, f.node, 0⟩] rfl
    · rw [decide_eq_false a0, if_pos (by simp), e, Option.bind_some, s_done (by omega), Option.bind_some, if_neg (show ¬ (n.Kind = 8 ∧ f.v_.Kind = 0 ∧ m.v.Kind = 0) from fun c => a0 c.2.1), if_neg (show ¬ (n.Kind = 4 ∧ f.v_.Kind = 1) by omega)]
      exact bad_mk _ rfl rfl [⟨2, f.node, 0⟩] rfl
  rw [if_neg c8, if_neg (show ¬ (n.Kind = 8 ∧ f.v_.Kind = 0 ∧ m.v.Kind = 0) from fun c => c8 c.1)]
  have c4 : n.Kind = 4 := by unfold five at hk; omega
  rw [if_pos c4]
  by_cases v1 : f.v_.Kind = 1
  · have hc := vok_clo hf.v v1
    obtain ⟨e0, e1, x0, x1, cov, kk⟩ := q.h.cloI hc.1 hc.2
    rw [decide_eq_true v1, if_neg (by simp), if_pos (show n.Kind = 4 ∧ f.v_.Kind = 1 from ⟨c4, v1⟩)]
    unfold callM
    rw [show (toS m).h_ = m.h from rfl, at_cC _ _ hc.1 hc.2, Option.bind_some]
    generalize cC m.h.Clos f.v_.N = c at x0 x1 ⊢
    unfold jn toS
    simp only
    rw [at_ndZ l _ x0 x1, Option.bind_some]
    have fin : ∀ r : Int, (gd ((m.ev.length + 1) * 24 ≤ 140737488355328) ((spec_l11Push.f K (⟨m.d, m.node, m.env, m.v, m.fr.map cvF, m.h, m.ev ++ [⟨1, f.node, c.Node⟩], false⟩ : spec_l11State) ⟨f.node, 0, ⟨0, 0⟩, 2⟩).bind fun y36 => ((some (nd l c.Node.toNat)).bind fun x38 => ((spec_l11Bind.f K y36 c.Node r m.v c.Env).bind fun x => ((spec_l11Look.f K x.2 x38.A x.1).bind fun y42 => (some y42)))))) =
        some (⟨0, (nd l c.Node.toNat).A, elen m.h, m.v, m.fr.map cvF ++ [⟨f.node, 0, ⟨0, 0⟩, 2⟩], hE m.h ⟨c.Node, r, m.v, c.Env⟩, m.ev ++ [⟨1, f.node, c.Node⟩], false⟩ : spec_l11State) := fun r => by
      rw [gd_pos (by omega), s_push fl, Option.bind_some, Option.bind_some, s_bind (by omega)]
      simp only [Option.bind_some]
      rw [s_look, Option.bind_some]
    by_cases h6 : (nd l c.Node.toNat).Kind = 6
    · rw [if_pos h6, if_pos h6]
      show _ = some (toS _)
      refine (fin 1).trans ?_
      unfold toS lkM
      simp only [List.map_append]; rfl
    · rw [if_neg h6, if_neg h6]
      show _ = some (toS _)
      refine (fin 0).trans ?_
      unfold toS lkM
      simp only [List.map_append]; rfl
  · rw [decide_eq_false v1, if_pos (by simp), if_neg (show ¬ (n.Kind = 4 ∧ f.v_.Kind = 1) from fun c => v1 c.2)]
    exact bad_mk _ rfl rfl [] (by simp [toS])
end
end Go.Proofs.YtifomiglajcanaaGreatDoorE

namespace Go.Proofs.YtifomiglajcanaaGreatDoorE
open Go.Ev Go.RowKit
set_option linter.unusedVariables false
set_option linter.unusedSimpArgs false
theorem map_take {α β : Type} (g : α → β) (l : List α) (n : Nat) : (l.map g).take n = (l.take n).map g := by simp
theorem top_map {m : Mc} (h : m.fr ≠ []) : at_ (m.fr.map cvF) ((m.fr.length - 1 : Nat) : Int) = some (cvF (topF m)) := by
  have := List.length_pos_iff.2 h
  rw [at_in _ _ (by rw [List.length_map]; omega)]
  unfold topF
  simp [List.getD, List.getElem?_eq_getElem (show m.fr.length - 1 < m.fr.length by omega)]
theorem stg1 (w : Int) : stg w = 1 ↔ w = 1 := by
  unfold stg
  by_cases a : w = 0
  · rw [if_pos a]; omega
  · rw [if_neg a]
    by_cases b : w = 1
    · rw [if_pos b]; omega
    · rw [if_neg b]; omega
theorem stg3 (w : Int) : stg w = 3 ↔ w ≠ 0 ∧ w ≠ 1 := by
  unfold stg
  by_cases a : w = 0
  · rw [if_pos a]; omega
  · rw [if_neg a]
    by_cases b : w = 1
    · rw [if_pos b]; omega
    · rw [if_neg b]; omega
theorem s_back {l : List Nd} (h : nodesOkB l = true) {m : Mc} (q : MOk l m) (s : Sm m) (hne : m.fr ≠ []) (d1 : m.d = 1) (K : Nat) : Ans m (spec_l11Back.f K (toS m) l) (stepM l m) := by
  have hl := List.length_pos_iff.2 hne
  have sf := s.f
  have sv := s.v
  have q' := pop_ok q (by omega)
  have s' := pop_sm s
  have ft : FrOk l (popM m).h (topF m) := q.f _ (top_mem hne)
  unfold spec_l11Back.f stepM backM
  have hw : w64 (((toS m).stack.length : Int) - 1) = ((m.fr.length - 1 : Nat) : Int) := by
    show w64 (((m.fr.map cvF).length : Int) - 1) = _
    rw [List.length_map, w64_of (by omega) (by omega)]; omega
  have hlen : ((toS m).stack.length : Int) = (m.fr.length : Int) := by show ((m.fr.map cvF).length : Int) = _; rw [List.length_map]
  rw [hw, show (toS m).stack = m.fr.map cvF from rfl, top_map hne, Option.bind_some]
  rw [gd_pos ⟨by omega, by omega, by rw [List.length_map]; omega⟩, Int.toNat_natCast, map_take]
  show Ans m (if (cvF (topF m)).stage = 1 then ((spec_l11First.f K (toS (popM m)) l (cvF (topF m)) (popM m).v).bind fun y3 => (some y3)) else (if (cvF (topF m)).stage = 3 then ((spec_l11Second.f K (toS (popM m)) l (cvF (topF m)) (popM m).v).bind fun y6 => (some y6)) else ((spec_l11Done.f K (toS (popM m)) (cvF (topF m)).node (popM m).v).bind fun y8 => (some y8)))) _
  rw [if_neg (show ¬ m.d = 0 by omega), if_neg (show ¬ (popM m).d = 2 by show ¬ m.d = 2; omega)]
  have lift : ∀ (r : Option spec_l11State) (o : Option Mc), Ans (popM m) r o → Ans m (r.bind fun y => some y) o := fun r o a => by
    have e : (r.bind fun y => some y) = r := by cases r <;> rfl
    rw [e]
    cases o with
    | none => exact a
    | some m' => exact a
  by_cases w1 : (topF m).wait = 1
  · rw [if_pos (show (cvF (topF m)).stage = 1 from (stg1 _).2 w1), if_neg (show ¬ (topF m).wait = 0 by omega), if_pos w1]
    refine lift _ _ (s_first q' s' ft ?_ ?_)
    · rcases ft.w with w | w | w
      · omega
      · exact w.2.2
      · omega
    · exact kind_in h _ (by have := ft.n0; have := ft.n1; omega)
  rw [if_neg (show ¬ (cvF (topF m)).stage = 1 from fun c => w1 ((stg1 _).1 c))]
  by_cases w0 : (topF m).wait = 0
  · rw [if_neg (show ¬ (cvF (topF m)).stage = 3 from fun c => ((stg3 _).1 c).1 w0), if_pos w0]
    have e3 := s'.v
    unfold toS
    rw [s_done (by omega), Option.bind_some]; rfl
  · rw [if_pos (show (cvF (topF m)).stage = 3 from (stg3 _).2 ⟨w0, w1⟩), if_neg w0, if_neg w1]
    refine lift _ _ (s_second q' s' ft ?_)
    rcases ft.w with w | w | w
    · exact absurd w w0
    · exact absurd w.1 w1
    · exact w.2
theorem s_throw {l : List Nd} {m : Mc} (q : MOk l m) (s : Sm m) (hne : m.fr ≠ []) (d2 : m.d = 2) (K : Nat) : Ans m (spec_l11Throw.f K (toS m) l) (stepM l m) := by
  have hl := List.length_pos_iff.2 hne
  have sf := s.f
  have se := s.e
  have ft : FrOk l (popM m).h (topF m) := q.f _ (top_mem hne)
  unfold spec_l11Throw.f stepM backM
  have hw : w64 (((toS m).stack.length : Int) - 1) = ((m.fr.length - 1 : Nat) : Int) := by
    show w64 (((m.fr.map cvF).length : Int) - 1) = _
    rw [List.length_map, w64_of (by omega) (by omega)]; omega
  rw [hw, show (toS m).stack = m.fr.map cvF from rfl, top_map hne, Option.bind_some]
  rw [gd_pos ⟨by omega, by omega, by rw [List.length_map]; omega⟩, Int.toNat_natCast, map_take]
  rw [if_neg (show ¬ m.d = 0 by omega), if_pos (show (popM m).d = 2 from d2)]
  rw [show (cvF (topF m)).node = (topF m).node from rfl, show (cvF (topF m)).env = (topF m).env from rfl]
  generalize hf : topF m = f at ft ⊢
  have tree : ∀ g : Bool → Option spec_l11State, jn g (fun j => (at_ l f.node).bind fun x3 => (if x3.Kind = 19 then (j (decide ((cvF f).stage = 1))) else (j false))) = g (decide (f.wait = 1 ∧ (nd l f.node.toNat).Kind = 19)) := fun g => by
    unfold jn
    rw [at_ndZ l _ ft.n0 ft.n1]
    simp only [Option.bind_some]
    have := stg1 f.wait
    by_cases a : (nd l f.node.toNat).Kind = 19 <;> by_cases b : f.wait = 1
    · rw [if_pos a, decide_eq_true (show (cvF f).stage = 1 from this.2 b), decide_eq_true ⟨b, a⟩]
    · rw [if_pos a, decide_eq_false (show ¬ (cvF f).stage = 1 from fun c => b (this.1 c)), decide_eq_false (fun c => b c.1)]
    · rw [if_neg a, decide_eq_false (fun c => a c.2)]
    · rw [if_neg a, decide_eq_false (fun c => a c.2)]
  rw [tree, bool_if]
  have fl : ((m.fr.take (m.fr.length - 1)).map cvF).length ≤ 1000000 := by rw [List.length_map, List.length_take]; omega
  by_cases c : f.wait = 1 ∧ (nd l f.node.toNat).Kind = 19
  · rw [if_pos c, if_pos c]
    unfold toS
    dsimp only
    rw [s_push fl, Option.bind_some, at_ndZ l _ ft.n0 ft.n1, Option.bind_some, s_bind (by omega)]
    simp only [Option.bind_some]
    rw [s_look, Option.bind_some]
    show _ = some (toS _)
    unfold toS lkM popM
    simp only [List.map_append]; rfl
  · rw [if_neg c, if_neg c]; rfl
theorem s_run_l0 {l : List Nd} (h : nodesOkB l = true) (hsm : ∀ n ∈ l, small n) (hc : ClosedP l) (K : Nat) (hK : big ≤ K) : ∀ (n s : Nat) (had : Int) (m : Mc) (k : Nat), MOk l m → SzOk s m → s + n ≤ 5000 → n + 1 < k → ∀ {kk m1 t}, runM l n s m = (kk, m1, t) →
    (kk ≠ 4 → ∃ had', spec_Run.l0 l ((s + n : Nat) : Int) K k (s : Int) had (toS m) = some ((t : Int), had', toS m1)) ∧ (kk = 4 → ∃ s' F, spec_Run.l0 l ((s + n : Nat) : Int) K k (s : Int) had (toS m) = some ((t : Int), (m1.ev.length : Int), s') ∧ s'.stuck = true ∧ s'.ev = m1.ev ++ F) := by
  have cond : ∀ (a b : Int) (m : Mc) (f : Bool → Option (Int × Int × spec_l11State)), jn f (fun j => if a < b then (if (!(toS m).stuck) = true then (if (toS m).mode = 0 then (j true) else (j (decide (((toS m).stack.length : Int) > 0)))) else (j false)) else (j false)) = f (decide (a < b ∧ ¬ endP m)) := fun a b m f => by
    unfold jn endP
    show (if a < b then (if (!false) = true then (if m.d = 0 then f true else f (decide (((m.fr.map cvF).length : Int) > 0))) else f false) else f false) = _
    rw [List.length_map]
    by_cases x : a < b <;> by_cases y : m.d = 0 <;> by_cases z : m.fr.length = 0 <;> simp [x, y, z]
    exact congrArg f (decide_eq_true (by omega))
  intro n
  induction n with
  | zero =>
    intro s had m k q z hs hk kk m1 t e
    obtain ⟨k, rfl⟩ := succ_of (show 0 < k by omega)
    rw [runM] at e
    rw [spec_Run.l0, cond, bool_if, if_neg (show ¬ ((s : Int) < ((s + 0 : Nat) : Int) ∧ ¬ endP m) from fun c => by have := c.1; omega)]
    split at e
    · cases e
      exact ⟨fun _ => ⟨_, rfl⟩, fun c => absurd c (endK_ne m).2⟩
    · cases e
      exact ⟨fun _ => ⟨_, rfl⟩, fun c => by omega⟩
  | succ n ih =>
    intro s had m k q z hs hk kk m1 t e
    obtain ⟨k, rfl⟩ := succ_of (show 0 < k by omega)
    have sm := sm_of z (by omega)
    rw [runM] at e
    rw [spec_Run.l0, cond, bool_if]
    by_cases he : endP m
    · rw [if_pos he] at e
      cases e
      rw [if_neg (show ¬ ((s : Int) < ((s + (n + 1) : Nat) : Int) ∧ ¬ endP m) from fun c => c.2 he)]
      exact ⟨fun _ => ⟨_, rfl⟩, fun c => absurd c (endK_ne m).2⟩
    · rw [if_neg he] at e
      rw [if_pos (show ((s : Int) < ((s + (n + 1) : Nat) : Int) ∧ ¬ endP m) from ⟨by omega, he⟩), w64_of (x := (s : Int) + 1) (by omega) (by omega)]
      have hev : (toS m).ev = m.ev := rfl
      rw [hev]
      -- one step
      have go : ∀ r : Option spec_l11State, Ans m r (stepM l m) →
          (kk ≠ 4 → ∃ had', (r.bind fun y => spec_Run.l0 l ((s + (n + 1) : Nat) : Int) K k ((s : Int) + 1) (m.ev.length : Int) y) = some ((t : Int), had', toS m1)) ∧ (kk = 4 → ∃ s' F, (r.bind fun y => spec_Run.l0 l ((s + (n + 1) : Nat) : Int) K k ((s : Int) + 1) (m.ev.length : Int) y) = some ((t : Int), (m1.ev.length : Int), s') ∧ s'.stuck = true ∧ s'.ev = m1.ev ++ F) := fun r a => by
        cases hst : stepM l m with
        | none =>
          rw [hst] at e a
          cases e
          refine ⟨fun c => absurd rfl c, fun _ => ?_⟩
          obtain ⟨s', F, e1, e2, e3⟩ := a
          obtain ⟨k, rfl⟩ := succ_of (show 0 < k by omega)
          rw [e1, Option.bind_some, spec_Run.l0]
          have c0 : ∀ f : Bool → Option (Int × Int × spec_l11State), jn f (fun j => if (s : Int) + 1 < ((s + (n + 1) : Nat) : Int) then (if (!s'.stuck) = true then (if s'.mode = 0 then (j true) else (j (decide ((s'.stack.length : Int) > 0)))) else (j false)) else (j false)) = f false := fun f => by
            unfold jn
            rw [e2]
            simp
          rw [c0]
          exact ⟨s', F, rfl, e2, e3⟩
        | some m' =>
          rw [hst] at e a
          have a : r = some (toS m') := a
          rw [a, Option.bind_some]
          have := ih (s + 1) (m.ev.length : Int) m' k (step_ok h hc q (not_end he) hst) (sz_step z hst) (by omega) (by omega) e
          rw [show s + 1 + n = s + (n + 1) by omega, show ((s + 1 : Nat) : Int) = (s : Int) + 1 by omega] at this
          exact this
      by_cases d0 : m.d = 0
      · have k' : LkOk l m.h m.node m.env := by
          rcases q.d with d | d | d
          · exact d.2
          · omega
          · omega
        rw [if_pos (show (toS m).mode = 0 from d0)]
        refine go _ ?_
        unfold stepM
        rw [if_pos d0]
        exact s_eval h hsm hc q k' sm K hK
      · have hne := (not_end he).resolve_left d0
        rw [if_neg (show ¬ (toS m).mode = 0 from d0)]
        by_cases d1 : m.d = 1
        · rw [if_pos (show (toS m).mode = 1 from d1)]
          exact go _ (s_back h q sm hne d1 K)
        · rw [if_neg (show ¬ (toS m).mode = 1 from d1)]
          refine go _ (s_throw q sm hne ?_ K)
          rcases q.d with d | d | d
          · exact absurd d.1 d0
          · exact absurd d d1
          · exact d.1
theorem s_closed (l : List Nd) (hl : l.length ≤ 1048576) (hsm : ∀ n ∈ l, small n) (K : Nat) (hK : big ≤ K) : spec_Closed.f K l = some (closedB l) := by
  unfold spec_Closed.f closedB
  rw [spec_nodesOk l hl hsm K hK, Option.bind_some]
  cases h : nodesOkB l with
  | false => rfl
  | true =>
    obtain ⟨o, e, _, h2⟩ := spec_free h hsm K hK
    rw [if_pos rfl, e, Option.bind_some, Bool.true_and]
    have := any_nil _ _ h2
    congr 1
    rw [decide_eq_decide, ← this]
    simp
theorem run_kind (l : List Nd) : ∀ (n s : Nat) (m : Mc) {k m1 t}, runM l n s m = (k, m1, t) → (k = 1 ∧ m1.d = 1 ∧ endP m1) ∨ (k = 2 ∧ m1.d ≠ 1 ∧ endP m1) ∨ (k = 3 ∧ ¬ endP m1) ∨ k = 4 := by
  intro n
  induction n with
  | zero =>
    intro s m k m1 t e
    rw [runM] at e
    split at e
    · rename_i he
      cases e
      unfold endK
      by_cases d : m.d = 1
      · rw [if_pos d]; exact .inl ⟨rfl, d, he⟩
      · rw [if_neg d]; exact .inr (.inl ⟨rfl, d, he⟩)
    · rename_i he
      cases e; exact .inr (.inr (.inl ⟨rfl, he⟩))
  | succ n ih =>
    intro s m k m1 t e
    rw [runM] at e
    split at e
    · rename_i he
      cases e
      unfold endK
      by_cases d : m.d = 1
      · rw [if_pos d]; exact .inl ⟨rfl, d, he⟩
      · rw [if_neg d]; exact .inr (.inl ⟨rfl, d, he⟩)
    · cases hs : stepM l m with
      | none => rw [hs] at e; cases e; exact .inr (.inr (.inr rfl))
      | some m' => rw [hs] at e; exact ih _ _ e
theorem s_run {l : List Nd} (hl : l.length ≤ 1048576) (hsm : ∀ n ∈ l, small n) (f : Int) (K : Nat) (hK : big ≤ K) : spec_Run.f K l f = some (if closedB l = true ∧ inB f 0 3000 = true then resI (runM l f.toNat 0 (startM l)) else ⟨0, emp, 0, 0, []⟩) := by
  unfold spec_Run.f
  have hK' := hK
  unfold big at hK'
  rw [spec_nodesOk l hl hsm K hK, s_closed l hl hsm K hK, spec_inB]
  simp only [Option.bind_some]
  have pick : ∀ g : Bool → Option impl_Result, jn g (fun j => if (!nodesOkB l) = true then j true else if (!closedB l) = true then j true else j (!inB f 0 3000)) = g (!(closedB l && inB f 0 3000)) := fun g => by
    unfold jn closedB
    cases nodesOkB l <;> cases decide (freeFrom l l.length 0 [] = []) <;> cases inB f 0 3000 <;> rfl
  rw [pick]
  cases hcl : closedB l with
  | false => simp only [Bool.false_and, Bool.not_false, if_true]; rw [if_neg (by simp)]; rfl
  | true =>
    cases hin : inB f 0 3000 with
    | false => simp only [Bool.and_false, Bool.not_false, if_true]; rw [if_neg (by simp)]; rfl
    | true =>
      simp only [Bool.and_self, Bool.not_true, Bool.false_eq_true, if_false]
      rw [if_pos ⟨trivial, trivial⟩]
      obtain ⟨h, hc⟩ := (closedB_iff l).1 hcl
      have hlen := ok_len h
      unfold inB at hin
      simp only [Bool.and_eq_true, decide_eq_true_eq] at hin
      obtain ⟨q, z⟩ := start_ok h
      have e0 : (⟨0, w64 ((l.length : Int) - 1), -1, ⟨0, 0⟩, [], ⟨[], [], [], []⟩, [], false⟩ : spec_l11State) = toS (startM l) := by
        rw [w64_of (by omega) (by omega)]; rfl
      rw [e0]
      cases hr : runM l f.toNat 0 (startM l) with
      | mk kk r2 =>
      obtain ⟨m1, t⟩ := r2
      obtain ⟨r1, r2⟩ := s_run_l0 h hsm hc K hK f.toNat 0 0 (startM l) K q z (by omega) (by omega) hr
      rw [show (((0 + f.toNat : Nat)) : Int) = f by omega, show (((0 : Nat)) : Int) = 0 from rfl] at r1 r2
      obtain ⟨q1, z1, _, ht⟩ := run_ok h hc f.toNat 0 (startM l) q z hr
      have sm := sm_of z1 (by omega)
      have hv := vok_small q1.v sm.c sm.t sm.r
      have sv := sm.v
      simp only [jn]
      rcases run_kind l _ _ _ hr with ⟨rfl, k2, k3⟩ | ⟨rfl, k2, k3⟩ | ⟨rfl, k2⟩ | rfl
      · obtain ⟨had', e⟩ := r1 (by decide)
        rw [e, Option.bind_some]
        show (if false = true then _ else if (toS m1).mode = 0 then _ else _) = _
        rw [if_neg (by simp), if_neg (show ¬ (toS m1).mode = 0 from k3.1), decide_eq_false (show ¬ (((toS m1).stack.length : Int) > 0) by show ¬ (((m1.fr.map cvF).length : Int) > 0); rw [List.length_map, k3.2]; omega), if_neg (by simp), if_pos (show (toS m1).mode = 1 from k2)]
        have := s_show q1.h sm.c sm.t sm.r K (by omega) K 4 m1.v (by omega) (by omega) q1.v
        show (Option.bind (spec_l10Show.r K K m1.h m1.v 4) _) = _
        rw [show (4 : Int) = ((4 : Nat) : Int) from rfl, this]; rfl
      · obtain ⟨had', e⟩ := r1 (by decide)
        rw [e, Option.bind_some]
        show (if false = true then _ else if (toS m1).mode = 0 then _ else _) = _
        rw [if_neg (by simp), if_neg (show ¬ (toS m1).mode = 0 from k3.1), decide_eq_false (show ¬ (((toS m1).stack.length : Int) > 0) by show ¬ (((m1.fr.map cvF).length : Int) > 0); rw [List.length_map, k3.2]; omega), if_neg (by simp), if_neg (show ¬ (toS m1).mode = 1 from k2)]
        show (Option.bind (spec_Dec.f K m1.v.N) _) = _
        rw [s_dec K (by omega) _ hv.1 (by omega)]; rfl
      · obtain ⟨had', e⟩ := r1 (by decide)
        rw [e, Option.bind_some]
        show (if false = true then _ else if (toS m1).mode = 0 then _ else _) = _
        rw [if_neg (by simp)]
        by_cases d0 : m1.d = 0
        · rw [if_pos (show (toS m1).mode = 0 from d0)]; rfl
        · have : m1.fr.length ≠ 0 := fun c => k2 ⟨d0, c⟩
          rw [if_neg (show ¬ (toS m1).mode = 0 from d0), decide_eq_true (show (((toS m1).stack.length : Int) > 0) by show (((m1.fr.map cvF).length : Int) > 0); rw [List.length_map]; omega)]; rfl
      · obtain ⟨s', F, e, e2, e3⟩ := r2 rfl
        rw [e, Option.bind_some]
        show (if s'.stuck = true then gd (0 ≤ (0 : Int) ∧ (0 : Int) ≤ (m1.ev.length : Int) ∧ (m1.ev.length : Int) ≤ (s'.ev.length : Int)) (gd ((0 + (s'.ev.take (m1.ev.length : Int).toNat).length) * 24 ≤ 140737488355328) (some (⟨4, (⟨#[]⟩ : ByteArray), 0, (t : Int), ([] : List impl_Event) ++ (s'.ev.take (m1.ev.length : Int).toNat)⟩ : impl_Result))) else _) = _
        rw [if_pos e2, gd_pos ⟨by omega, by omega, by rw [e3, List.length_append]; omega⟩]
        have et : s'.ev.take (m1.ev.length : Int).toNat = m1.ev := by rw [e3, Int.toNat_natCast, List.take_left]
        rw [et, gd_pos (by omega)]; rfl
end Go.Proofs.YtifomiglajcanaaGreatDoorE

namespace Go.Proofs.YtifomiglajcanaaGreatDoorE
open Go.Ev
set_option linter.unusedVariables false
def toN (a : laws_Node) : Nd := ⟨a.Kind, a.A, a.B, a.C, a.N, a.Name, a.Other⟩
theorem set_at {α : Type} (p : List α) (a v : α) (t : List α) : (p ++ a :: t).set p.length v = p ++ v :: t := by
  rw [List.set_append_right _ _ (Nat.le_refl _), Nat.sub_self, List.set_cons_zero]
theorem toNodeS_l0 (K : Nat) (r : List laws_Node) : ∀ (k : Nat) (ys : List laws_Node) (ws : List Nd), ws.length = r.length → r.length < k → ys.length + r.length ≤ 1048576 →
    laws_toNodeS.l0 (ys ++ r) K k ys.length (ys.map toN ++ ws) = some ((ys ++ r).map toN) := by
  induction r with
  | nil =>
    intro k ys ws hw hk hl
    obtain ⟨k, rfl⟩ := succ_of hk
    obtain rfl := List.eq_nil_of_length_eq_zero hw
    rw [laws_toNodeS.l0, if_neg (by simp)]
    simp
  | cons a r ih =>
    intro k ys ws hw hk hl
    obtain ⟨k, rfl⟩ := succ_of hk
    simp only [List.length_cons] at hk hl hw
    match ws, hw with
    | w :: ws, hw =>
      have hm : (ys.map toN).length = ys.length := List.length_map _
      have e : w64 ((ys.length : Int) + 1) = ((ys ++ [a]).length : Int) := by rw [w64_of (by omega) (by omega)]; simp
      have am := at_mid (ys.map toN) ws w
      have sm := set_at (ys.map toN) w (toN a) ws
      rw [hm] at am sm
      rw [laws_toNodeS.l0, if_pos (by simp; omega), at_mid, Option.bind_some, laws_toNode.f, Option.bind_some, am, Option.bind_some, e, Int.toNat_natCast]
      rw [show (⟨a.Kind, a.A, a.B, a.C, a.N, a.Name, a.Other⟩ : impl_Node) = toN a from rfl, sm]
      have := ih k (ys ++ [a]) ws (by simpa using hw) (by omega) (by simp; omega)
      simpa using this
theorem toNodeS (l : List laws_Node) (hn : l.length ≤ 1048576) (K : Nat) (hk : l.length < K) : laws_toNodeS.f K l = some (l.map toN) := by
  unfold laws_toNodeS.f jn
  rw [gd_pos (by omega), Int.toNat_natCast]
  have q := toNodeS_l0 K l K [] (List.replicate l.length ⟨0, 0, 0, 0, 0, ⟨#[]⟩, ⟨#[]⟩⟩) (by simp) hk (by simpa using hn)
  rw [show laws_toNodeS.l0 l K K 0 (List.replicate l.length (⟨0, 0, 0, 0, 0, ⟨#[]⟩, ⟨#[]⟩⟩ : impl_Node)) = _ from q]
  rfl
theorem eqNode_refl (K : Nat) (a : Nd) : laws_eqNode.f K a a = some true := by simp [laws_eqNode.f]
theorem eqNodeS_l0 (K : Nat) (r : List Nd) : ∀ (k : Nat) (p : List Nd), r.length < k → p.length + r.length ≤ 4000000 → laws_eqNodeS.l0 (p ++ r) (p ++ r) K k p.length = some (.inr ()) := by
  induction r with
  | nil =>
    intro k p hk hl
    obtain ⟨k, rfl⟩ := succ_of hk
    rw [laws_eqNodeS.l0, if_neg (by simp)]
  | cons a r ih =>
    intro k p hk hl
    obtain ⟨k, rfl⟩ := succ_of hk
    simp only [List.length_cons] at hk hl
    have e : w64 ((p.length : Int) + 1) = ((p ++ [a]).length : Int) := by rw [w64_of (by omega) (by omega)]; simp
    rw [laws_eqNodeS.l0, if_pos (by simp; omega), at_mid, Option.bind_some, Option.bind_some, eqNode_refl, Option.bind_some, e]
    have := ih k (p ++ [a]) (by omega) (by simp; omega)
    simpa using this
theorem eqNodeS (x : List Nd) (hn : x.length ≤ 4000000) (K : Nat) (hk : x.length < K) : laws_eqNodeS.f K x x = some true := by
  unfold laws_eqNodeS.f jn
  have q := eqNodeS_l0 K x K [] hk (by simpa using hn)
  rw [show laws_eqNodeS.l0 x x K K 0 = _ from q]
  simp [lb]
theorem szNodeS_l0 (K : Nat) (r : List laws_Node) : (∀ a ∈ r, a.Name.size ≤ 9223372036854775807 ∧ a.Other.size ≤ 9223372036854775807) → ∀ (k : Nat) (ys : List laws_Node) (n : Int), r.length < k → ys.length + r.length ≤ 1048576 → 0 ≤ n → n ≤ 1048576 →
    ∃ x, laws_szNodeS.l0 (ys ++ r) K k n ys.length = some x ∧ ((∃ m, x = .inl m ∧ m < 0) ∨ (∃ m, x = .inr m) ∧ ∀ a ∈ r, small (toN a)) := by
  induction r with
  | nil =>
    intro hm k ys n hk hl h0 h1
    obtain ⟨k, rfl⟩ := succ_of hk
    exact ⟨.inr n, by rw [laws_szNodeS.l0, if_neg (by simp)], .inr ⟨⟨_, rfl⟩, fun a ha => by cases ha⟩⟩
  | cons a r ih =>
    intro hm k ys n hk hl h0 h1
    obtain ⟨k, rfl⟩ := succ_of hk
    simp only [List.length_cons] at hk hl
    obtain ⟨m5, m6⟩ := hm a (by simp)
    have e : w64 ((ys.length : Int) + 1) = ((ys ++ [a]).length : Int) := by rw [w64_of (by omega) (by omega)]; simp
    rw [laws_szNodeS.l0, if_pos (by simp; omega), at_mid, Option.bind_some, laws_szNode.f, w64_of (x := n - _) (by omega) (by omega)]
    by_cases h5 : n - (a.Name.size : Int) < 0
    · rw [if_pos h5]
      exact ⟨.inl (-1), rfl, .inl ⟨-1, rfl, by omega⟩⟩
    · rw [if_neg h5, w64_of (x := n - (a.Name.size : Int) - _) (by omega) (by omega)]
      by_cases h6 : n - (a.Name.size : Int) - (a.Other.size : Int) < 0
      · rw [if_pos h6]
        exact ⟨.inl (-1), rfl, .inl ⟨-1, rfl, by omega⟩⟩
      · rw [if_neg h6, Option.bind_some, if_neg h6, e, show ys ++ a :: r = (ys ++ [a]) ++ r by simp]
        obtain ⟨x, hx, hc⟩ := ih (fun y hy => hm y (by simp [hy])) k (ys ++ [a]) (n - (a.Name.size : Int) - (a.Other.size : Int)) (by omega) (by simp; omega) (by omega) (by omega)
        refine ⟨x, hx, hc.imp _root_.id fun ⟨h, q⟩ => ⟨h, fun y hy => ?_⟩⟩
        cases hy with
        | head => exact ⟨by show a.Name.size ≤ _; omega, by show a.Other.size ≤ _; omega⟩
        | tail _ hy => exact q y hy
/-- Sized: less than nothing is left, or the list and its texts are of a size that is there. -/
theorem szNodeS (l : List laws_Node) (hl : l.length ≤ 9223372036854775807) (hm : ∀ a ∈ l, a.Name.size ≤ 9223372036854775807 ∧ a.Other.size ≤ 9223372036854775807) (K : Nat) (hk : 1048580 ≤ K) :
    ∃ r, laws_szNodeS.f K l 1048576 = some r ∧ (r < 0 ∨ l.length ≤ 1048576 ∧ ∀ n ∈ l.map toN, small n) := by
  unfold laws_szNodeS.f jn
  rw [w64_of (by omega) (by omega)]
  by_cases h : (1048576 : Int) - (l.length : Int) < 0
  · rw [if_pos h]
    exact ⟨-1, rfl, .inl (by omega)⟩
  · rw [if_neg h]
    obtain ⟨x, hx, hc⟩ := szNodeS_l0 K l hm K [] (1048576 - (l.length : Int)) (by omega) (by simp; omega) (by omega) (by omega)
    rw [show laws_szNodeS.l0 l K K (1048576 - (l.length : Int)) 0 = _ from hx]
    rcases hc with ⟨m, rfl, hm⟩ | ⟨⟨m, rfl⟩, q⟩
    · exact ⟨m, rfl, .inl hm⟩
    · exact ⟨m, rfl, .inr ⟨by omega, fun n hn => by
        obtain ⟨a, ha, rfl⟩ := List.mem_map.1 hn
        exact q a ha⟩⟩
end Go.Proofs.YtifomiglajcanaaGreatDoorE

namespace Go.Proofs.YtifomiglajcanaaGreatDoorE
open Go.Ev Go.RowKit
set_option linter.unusedVariables false
set_option linter.unusedSimpArgs false
def codes : List ByteArray := [⟨#[98, 97, 100]⟩, ⟨#[118, 97, 108, 117, 101]⟩, ⟨#[114, 97, 105, 115, 101, 100]⟩, ⟨#[102, 117, 101, 108]⟩, ⟨#[115, 116, 117, 99, 107]⟩]
def codeT (k : Int) : ByteArray := codes.getD k.toNat emp
theorem i_code (K : Nat) (k : Int) (h0 : 0 ≤ k) (h1 : k ≤ 4) : impl_CodeWord.f K k = some (codeT k) := by
  rcases (by omega : k = 0 ∨ k = 1 ∨ k = 2 ∨ k = 3 ∨ k = 4) with rfl | rfl | rfl | rfl | rfl <;> kernel_rfl
theorem s_code (K : Nat) (k : Int) (h0 : 0 ≤ k) (h1 : k ≤ 4) : spec_CodeWord.f K k = some (codeT k) := by
  rcases (by omega : k = 0 ∨ k = 1 ∨ k = 2 ∨ k = 3 ∨ k = 4) with rfl | rfl | rfl | rfl | rfl <;> kernel_rfl
theorem codeT_size (k : Int) (h0 : 0 ≤ k) (h1 : k ≤ 4) : (codeT k).size ≤ 6 := by
  rcases (by omega : k = 0 ∨ k = 1 ∨ k = 2 ∨ k = 3 ∨ k = 4) with rfl | rfl | rfl | rfl | rfl <;> decide
/-- The result of a run. -/
def runT (l : List Nd) (f : Int) : impl_Result := if closedB l = true ∧ inB f 0 3000 = true then resI (runM l f.toNat 0 (startM l)) else ⟨0, emp, 0, 0, []⟩
def outT (r : impl_Result) : ByteArray := if (r.Text.toList == emp.toList) = true then codeT r.Kind else (codeT r.Kind ++ spT) ++ r.Text
theorem runT_ok (l : List Nd) (f : Int) : 0 ≤ (runT l f).Kind ∧ (runT l f).Kind ≤ 4 ∧ (runT l f).Text.size ≤ 1000 ∧ (runT l f).Events.length ≤ 100000 := by
  unfold runT
  split
  · rename_i c
    obtain ⟨h, hc⟩ := (closedB_iff l).1 c.1
    have hin := c.2
    unfold inB at hin
    simp only [Bool.and_eq_true, decide_eq_true_eq] at hin
    obtain ⟨q, z⟩ := start_ok h
    cases hr : runM l f.toNat 0 (startM l) with
    | mk kk r2 =>
    obtain ⟨m1, t⟩ := r2
    obtain ⟨q1, z1, _, ht⟩ := run_ok h hc f.toNat 0 (startM l) q z hr
    have sm := sm_of z1 (by omega)
    have hv := vok_small q1.v sm.c sm.t sm.r
    have hk : 0 ≤ kk ∧ kk ≤ 4 := by
      rcases run_kind l _ _ _ hr with ⟨k, _⟩ | ⟨k, _⟩ | ⟨k, _⟩ | k <;> omega
    refine ⟨hk.1, hk.2, ?_, sm.v⟩
    show (if kk = 1 then shT m1.h 4 m1.v else if kk = 2 then decT m1.v.N else emp).size ≤ 1000
    split
    · have := shT_size q1.h sm.c sm.t sm.r 4 m1.v q1.v
      have := bd4 4 (Nat.le_refl _)
      omega
    split
    · have := decT_size m1.v.N hv.1 (by omega); omega
    · show (0 : Nat) ≤ 1000; omega
  · exact ⟨Int.le_refl _, by decide, by show (0 : Nat) ≤ 1000; omega, by simp⟩
theorem i_outcome {l : List Nd} (hl : l.length ≤ 1048576) (hsm : ∀ n ∈ l, small n) (f : Int) (K : Nat) (hK : big ≤ K) : impl_Outcome.f K l f = some (outT (runT l f)) := by
  obtain ⟨k0, k1, k2, _⟩ := runT_ok l f
  unfold impl_Outcome.f
  have er : impl_Run.f K l f = some (runT l f) := i_run hl hsm f K hK
  rw [er, Option.bind_some]
  have cs := codeT_size _ k0 k1
  rw [i_code K _ k0 k1, Option.bind_some]
  unfold outT jn
  show (if (!((runT l f).Text.toList == emp.toList)) = true then _ else _) = _
  cases (runT l f).Text.toList == emp.toList with
  | true => rfl
  | false =>
    rw [if_pos (show (!false) = true from rfl), if_neg (by simp)]
    have e1 : (⟨#[32]⟩ : ByteArray).size = 1 := rfl
    rw [gd_pos (by rw [e1]; omega), gd_pos (by rw [ByteArray.size_append, e1]; omega)]
    exact congrArg some (ByteArray.append_assoc (a := codeT (runT l f).Kind) (b := spT) (c := (runT l f).Text)).symm
theorem s_outcome {l : List Nd} (hl : l.length ≤ 1048576) (hsm : ∀ n ∈ l, small n) (f : Int) (K : Nat) (hK : big ≤ K) : spec_Outcome.f K l f = some (outT (runT l f)) := by
  obtain ⟨k0, k1, k2, _⟩ := runT_ok l f
  unfold spec_Outcome.f
  have er : spec_Run.f K l f = some (runT l f) := s_run hl hsm f K hK
  rw [er, Option.bind_some]
  have cs := codeT_size _ k0 k1
  show (if ((runT l f).Text.toList == emp.toList) = true then (spec_CodeWord.f K (runT l f).Kind).bind _ else (spec_CodeWord.f K (runT l f).Kind).bind _) = _
  rw [s_code K _ k0 k1]
  unfold outT
  cases (runT l f).Text.toList == emp.toList with
  | true => rfl
  | false =>
    rw [if_neg (by simp), if_neg (by simp), Option.bind_some]
    have e1 : (⟨#[32]⟩ : ByteArray).size = 1 := rfl
    rw [gd_pos (by rw [e1]; omega), gd_pos (by rw [ByteArray.size_append, e1]; omega)]
    rfl
end Go.Proofs.YtifomiglajcanaaGreatDoorE
