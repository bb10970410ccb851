/- The reference's draws of programs come to an end: l3Gen itself, l3Loose, l3Prog, l3Some, l3Bent. -/
import Derived.Test.YtfkanjgfjejgiaaDoorZUvDr2
set_option linter.unusedSimpArgs false
set_option linter.unusedVariables false
namespace Go.Proofs.YtfkanjgfjejgiaaDoorE
open Go.Ev Go.RowKit
set_option linter.unusedVariables false
theorem at_some {α : Type} {l : List α} {i : Int} (h0 : 0 ≤ i) (h1 : i < l.length) : Tot (at_ l i) fun _ => True := (at_mem h0 h1).mono fun _ _ => trivial
theorem gen_l1 (a3 : List ByteArray) (h3 : a3.length ≤ 100) (v2 : Int) (h0 : 0 ≤ v2) (h1 : v2 < a3.length) (K : Nat) : ∀ (k : Nat) (b : Bool) (i : Int), 0 ≤ i → (a3.length : Int) - i < k → 0 < k → Tot (spec_l3Gen.l1 a3 v2 K k b i) fun _ => True := by
  intro k
  induction k with
  | zero => intro b i _ _ h; omega
  | succ k ih =>
    intro b i hi hk _
    rw [spec_l3Gen.l1]
    refine Tot.ite (fun h => ?_) (fun _ => Tot.ret trivial)
    have e : w64 (i + 1) = i + 1 := w64_of (by omega) (by omega)
    refine Tot.jn (fun _ => True) (fun v _ => by rw [e]; exact ih v (i + 1) (by omega) (by omega) (by omega)) fun j hj => Tot.ite (fun _ => ?_) (fun _ => hj _ trivial)
    exact Tot.bind (at_some hi h) fun x _ => Tot.bind (at_some h0 h1) fun y _ => hj _ trivial
theorem gen_l0 (a1 : Int) (a3 : List ByteArray) (a4 : List Int) (h3 : a3.length ≤ 100) (h4 : a3.length = a4.length) (hs : ∀ s ∈ a3, s.size ≤ 100) (K : Nat) (hK : 1000 ≤ K) :
    ∀ (k : Nat) (i : Int) (v : List ByteArray), 0 ≤ i → (a3.length : Int) - i < k → 0 < k → v.length ≤ i → (∀ s ∈ v, s.size ≤ 100) → Tot (spec_l3Gen.l0 a1 a3 a4 K k i v) fun r => ∀ s ∈ r, s.size ≤ 100 := by
  intro k
  induction k with
  | zero => intro i v _ _ h; omega
  | succ k ih =>
    intro i v hi hk _ hv hs'
    rw [spec_l3Gen.l0]
    refine Tot.ite (fun h => ?_) (fun _ => Tot.ret hs')
    have e : w64 (i + 1) = i + 1 := w64_of (by omega) (by omega)
    refine Tot.jn (fun (x : List ByteArray) => x.length ≤ i + 1 ∧ ∀ s ∈ x, s.size ≤ 100) (fun x hx => by rw [e]; exact ih (i + 1) x (by omega) (by omega) (by omega) hx.1 hx.2) fun j hj => ?_
    refine Tot.jn (fun _ => True) (fun v7 _ => ?_) fun j2 hj2 => ?_
    · refine Tot.jn (fun _ => True) (fun v16 _ => Tot.ite (fun _ => ?_) (fun _ => hj _ ⟨by omega, hs'⟩)) fun j3 hj3 => Tot.ite (fun _ => Tot.bind (at_some hi (by omega)) fun x _ => hj3 _ trivial) (fun _ => hj3 _ trivial)
      refine Tot.bind (at_mem hi h) fun x hx => Tot.gd (by omega) (hj _ ⟨by simp; omega, fun s hq => ?_⟩)
      rcases List.mem_append.1 hq with q | q
      · exact hs' s q
      · rw [List.mem_singleton] at q; subst q; exact hs _ hx
    · rw [e]
      exact Tot.bind (gen_l1 a3 h3 i hi h K K true (i + 1) (by omega) (by omega) (by omega)) fun x _ => hj2 _ trivial
theorem one_few {m : Nat} (hm : 1 ≤ m) {n : Nd} (h : NdS n) : Few m [n] := ⟨by simp, by simpa using hm, fun x hx => by rw [List.mem_singleton] at hx; subst hx; exact h⟩
theorem meas_d {m : Nat} {a1 a2 : Int} (h : meas a1 a2 ≤ m + 1) (q : 0 < a2 ∨ (a1 ≠ 0 ∧ a1 ≠ 3)) : meas 0 (a2 - 1) ≤ m ∧ meas 0 (a2 - 2) ≤ m := by
  by_cases h0 : 0 < a2
  · unfold meas at h
    rw [if_neg (by omega)] at h
    exact ⟨meas_1 h0 (by omega), meas_2 h0 (by omega)⟩
  · unfold meas
    rw [if_pos (by omega), if_pos (.inl rfl), if_pos (by omega)]
    omega
theorem meas_pos {m : Nat} {a1 a2 : Int} (h : meas a1 a2 ≤ m) (q : 0 < a2 ∨ (a1 ≠ 0 ∧ a1 ≠ 3)) : ∃ m', m = m' + 1 ∧ (0 < a2 → a2 ≤ m') := by
  refine ⟨m - 1, ?_, fun h0 => ?_⟩
  · unfold meas at h
    split at h
    · rw [if_neg (by omega)] at h; omega
    · omega
  · unfold meas at h
    rw [if_neg (by omega)] at h
    omega
theorem t_genb {m : Nat} (m8 : m ≤ 5) {K : Nat} (hK : 1000 ≤ K) {r : GenF} (hr : ∀ m', m = m' + 1 → GenOk m' r) {c : Cur} {a1 a2 : Int} {a3 : List ByteArray} {a4 : List Int} (hc : CurOk c) (hme : meas a1 a2 ≤ m) (hN : Nm m a3 a4) (hl : -100 + 10 * (m : Int) ≤ a2) (hu : a2 ≤ 100) :
    Tot (spec_l3Gen.b r K c a1 a2 a3 a4) (GenP m) := by
  have d1 : w64 (a2 - 1) = a2 - 1 := w64_of (by omega) (by omega)
  have d2 : w64 (a2 - 2) = a2 - 2 := w64_of (by omega) (by omega)
  have l3 := hN.2.1
  have l4 : a4.length = a3.length := hN.1.symm
  have p1 := szB_pos m
  have ha3 : (([] : List ByteArray) ++ a3).length = a3.length := rfl
  have ha4 : (([] : List Int) ++ a4).length = a4.length := rfl
  have hsz : ∀ m', m = m' + 1 → szB m' ≤ 300 := fun m' e => by
    have : m' = 0 ∨ m' = 1 ∨ m' = 2 ∨ m' = 3 ∨ m' = 4 := by omega
    rcases this with rfl | rfl | rfl | rfl | rfl <;> decide
  have mk : ∀ (m' : Nat), m = m' + 1 → ∀ (c : Cur) (n : Nd) (ps : List (List Nd)), CurOk c → NdS n → (∀ p ∈ ps, Few (szB m') p) → ps.length ≤ 3 → Tot ((spec_l3Make.f K n ps).bind fun y => some (y, c)) (GenP m) := fun m' e c n ps hc hn hp h3 => by
    subst e
    exact Tot.bind (t_make hK hn hp h3 (hsz m' rfl)) fun y hy => Tot.ret ⟨hc, hy⟩
  -- calls with a number's type, one or two less deep
  have r1 : ∀ (m' : Nat) (t : Int), m = m' + 1 → meas t (a2 - 1) ≤ m' → ∀ (c : Cur) (x : List ByteArray) (y : List Int), CurOk c → Nm m' x y → Tot (r c t (w64 (a2 - 1)) x y) (GenP m') := fun m' t e q c x y hc hn => by rw [d1]; exact hr m' e _ _ _ _ _ hc q hn (by omega) (by omega)
  have r2 : ∀ (m' : Nat) (t : Int), m = m' + 1 → meas t (a2 - 2) ≤ m' → ∀ (c : Cur) (x : List ByteArray) (y : List Int), CurOk c → Nm m' x y → Tot (r c t (w64 (a2 - 2)) x y) (GenP m') := fun m' t e q c x y hc hn => by rw [d2]; exact hr m' e _ _ _ _ _ hc q hn (by omega) (by omega)
  unfold spec_l3Gen.b
  refine Tot.jn (fun (v : List ByteArray) => ∀ s ∈ v, s.size ≤ 100) (fun v1 hv1 => ?_) fun j hj => Tot.bind (gen_l0 a1 a3 a4 (by omega) hN.1 hN.2.2 K hK K 0 [] (by omega) (by omega) (by omega) (by simp) (by simp)) fun x hx => hj _ hx
  refine Tot.jn (fun (x : Bool × Cur) => CurOk x.2 ∧ (x.1 = true → 0 < v1.length)) (fun x hx => ?_) fun j hj => ?_
  rotate_left
  · refine Tot.ite (fun h => Tot.ite (fun _ => hj _ ⟨hc, fun _ => by omega⟩) (fun _ => Tot.bind2 (t_once K 3 hc) fun y c1 k1 => hj _ ⟨k1, fun _ => by omega⟩)) (fun _ => hj _ ⟨hc, fun q => by cases q⟩)
  obtain ⟨v21, c0⟩ := x
  obtain ⟨k0, q0⟩ := hx
  refine Tot.ite (fun h => ?_) (fun _ => ?_)
  · refine Tot.bind2 (t_pickS K v1 (q0 h) hv1 k0) fun y29 c1 ⟨k1, s1⟩ => ?_
    exact Tot.ret ⟨k1, one_few p1 (nd_S s1 e0_S)⟩
  refine Tot.jn (fun (x : Bool × Cur) => CurOk x.2 ∧ (x.1 = true → 0 < a2)) (fun x hx => ?_) fun j hj => Tot.ite (fun h => Tot.bind2 (t_once K 3 k0) fun y c1 k1 => hj _ ⟨k1, fun _ => h⟩) (fun _ => hj _ ⟨k0, fun q => by cases q⟩)
  obtain ⟨v34, c1⟩ := x
  obtain ⟨k1, q1⟩ := hx
  refine Tot.ite (fun h => ?_) (fun _ => ?_)
  · have h0 := q1 h
    obtain ⟨m', rfl, h2⟩ := meas_pos hme (.inl h0)
    exact Tot.bind2 (t_any (by omega) (hsz m' rfl) hK (hr m' rfl) k1 h0 (h2 h0) hu hN) fun y c2 g => Tot.ret g
  refine Tot.bind2 (t_pickS K _ (by decide) (by decide) k1) fun y44 c2 ⟨k2, s2⟩ => ?_
  refine Tot.ite (fun h => ?_) (fun n0 => Tot.ite (fun h => ?_) (fun n1 => Tot.ite (fun h => ?_) (fun n2 => Tot.ite (fun h => ?_) (fun n3 => ?_))))
  · refine Tot.jn (fun (x : Bool × Cur) => CurOk x.2 ∧ (x.1 = true → 0 < a2)) (fun x hx => ?_) fun j hj => Tot.ite (fun h => Tot.bind2 (t_once K 4 k2) fun y c1 k1 => hj _ ⟨k1, fun _ => h⟩) (fun _ => hj _ ⟨k2, fun q => by cases q⟩)
    obtain ⟨v48, c3⟩ := x
    obtain ⟨k3, q3⟩ := hx
    refine Tot.ite (fun h => ?_) (fun _ => ?_)
    · have h0 := q3 h
      obtain ⟨m', rfl, h2⟩ := meas_pos hme (.inl h0)
      exact Tot.bind2 (t_num (by omega) (hsz m' rfl) hK (hr m' rfl) k3 h0 (h2 h0) hu hN) fun y c2 g => Tot.ret g
    · refine Tot.bind2 (t_below K 50 k3) fun y58 c4 ⟨k4, _, _⟩ => Tot.bind2 (t_pickInt K _ (by simp) k4) fun y61 c5 ⟨k5, _⟩ => Tot.ret ⟨k5, one_few p1 (nd_S e0_S e0_S)⟩
  · obtain ⟨m', rfl, h2⟩ := meas_pos hme (.inr (by omega))
    obtain ⟨q1, q2⟩ := meas_d hme (.inr (by omega))
    refine Tot.gd (by omega) (Tot.gd (by rw [ha3]; omega) (Tot.gd (by omega) (Tot.gd (by rw [ha4]; omega) ?_)))
    refine Tot.bind2 (r1 m' 0 rfl q1 c2 _ _ k2 (nm1 hN s2 _)) fun y67 c3 ⟨k3, f3⟩ => ?_
    exact mk m' rfl c3 _ _ k3 (nd_S s2 e0_S) (few1 f3) (by simp)
  · obtain ⟨m', rfl, h2⟩ := meas_pos hme (.inr (by omega))
    obtain ⟨q1, q2⟩ := meas_d hme (.inr (by omega))
    refine Tot.bind2 (r1 m' 0 rfl q1 c2 _ _ k2 (nm0 hN)) fun y67 c3 ⟨k3, f3⟩ => ?_
    refine Tot.bind2 (r2 m' 0 rfl q2 c3 _ _ k3 (nm0 hN)) fun y68 c4 ⟨k4, f4⟩ => ?_
    exact mk m' rfl c4 _ _ k4 (nd_S e0_S e0_S) (few2 f3 f4) (by simp)
  · refine Tot.jn (fun (x : Bool × Cur) => CurOk x.2 ∧ (x.1 = true → 0 < a2)) (fun x hx => ?_) fun j hj => Tot.ite (fun h => Tot.bind2 (t_once K 3 k2) fun y c1 k1 => hj _ ⟨k1, fun _ => h⟩) (fun _ => hj _ ⟨k2, fun q => by cases q⟩)
    obtain ⟨v82, c3⟩ := x
    obtain ⟨k3, q3⟩ := hx
    refine Tot.ite (fun h => ?_) (fun _ => Tot.ret ⟨k3, one_few p1 (nd_S e0_S e0_S)⟩)
    have h0 := q3 h
    obtain ⟨m', rfl, h2⟩ := meas_pos hme (.inl h0)
    refine Tot.bind2 (r2 m' 0 rfl (meas_2 h0 (h2 h0)) c3 _ _ k3 (nm0 hN)) fun y67 c4 ⟨k4, f4⟩ => ?_
    refine Tot.bind2 (r1 m' 3 rfl (meas_1 h0 (h2 h0)) c4 _ _ k4 (nm0 hN)) fun y68 c5 ⟨k5, f5⟩ => ?_
    exact mk m' rfl c5 _ _ k5 (nd_S e0_S e0_S) (few2 f4 f5) (by simp)
  · obtain ⟨m', rfl, h2⟩ := meas_pos hme (.inr ⟨n0, n3⟩)
    obtain ⟨q1, q2⟩ := meas_d hme (.inr ⟨n0, n3⟩)
    refine Tot.bind2 (r1 m' 0 rfl q1 c2 _ _ k2 (nm0 hN)) fun y67 c3 ⟨k3, f3⟩ => ?_
    exact mk m' rfl c3 _ _ k3 (nd_S e0_S e0_S) (few1 f3) (by simp)
theorem t_gen {K : Nat} (hK : 1000 ≤ K) : ∀ (m d : Nat), m ≤ 5 → m < d → GenOk m (spec_l3Gen.r K d)
  | m, 0, _, h => by omega
  | 0, d + 1, m5, _ => fun c a1 a2 a3 a4 hc hme hN hl hu => t_genb m5 hK (fun m' e => by omega) hc hme hN hl hu
  | m + 1, d + 1, m5, h => fun c a1 a2 a3 a4 hc hme hN hl hu => t_genb m5 hK (fun m' e => by
      obtain rfl : m = m' := by omega
      exact t_gen hK m d (by omega) (by omega)) hc hme hN hl hu
def LbP {α β : Type} (A : α → Prop) (B : β → Prop) : α ⊕ β → Prop
  | .inl a => A a
  | .inr b => B b
/-- Programs that are drawn. -/
def ProP (r : List Nd × Cur) : Prop := CurOk r.2 ∧ Few 364 r.1
theorem prog_l0 {K : Nat} (hK : 1000 ≤ K) : ∀ (k : Nat) (i : Int) (c : Cur), 0 ≤ i → i ≤ 4 → 4 - i < k → CurOk c → Tot (spec_l3Prog.l0 K k i c) (LbP ProP CurOk) := by
  intro k
  induction k with
  | zero => intro i c h0 h1 h; omega
  | succ k ih =>
    intro i c h0 h1 hk hc
    rw [spec_l3Prog.l0]
    refine Tot.ite (fun h => ?_) (fun _ => Tot.ret hc)
    refine Tot.bind2 (t_below K 5 hc) fun y6 c1 ⟨k1, _, _⟩ => Tot.bind2 (t_below K 3 k1) fun y9 c2 ⟨k2, b1, b2⟩ => ?_
    have b3 := b2 (by omega)
    simp only at b1 b3
    have e2 : w64 (2 + y9) = 2 + y9 := w64_of (by omega) (by omega)
    have hg : Tot (spec_l3Gen.f K c2 y6 (w64 (2 + y9)) [] []) (GenP 5) := by
      rw [e2]
      refine t_gen hK 5 K (by omega) (by omega) c2 y6 (2 + y9) [] [] k2 ?_ ⟨rfl, by simp, by simp⟩ (by omega) (by omega)
      unfold meas; rw [if_neg (by omega)]; omega
    refine Tot.bind2 hg fun y12 c3 ⟨k3, f3⟩ => Tot.ite (fun _ => Tot.ret ⟨k3, f3⟩) (fun _ => ?_)
    rw [show w64 (i + 1) = i + 1 from w64_of (by omega) (by omega)]
    exact ih (i + 1) c3 (by omega) (by omega) (by omega) k3
theorem Tot.lb {ρ' τ ρ : Type} {x : Option (ρ' ⊕ τ)} {ret : ρ' → Option ρ} {rest : τ → Option ρ} {P : ρ → Prop} {A : ρ' → Prop} {B : τ → Prop} (h : Tot x (LbP A B)) (h1 : ∀ a, A a → Tot (ret a) P) (h2 : ∀ b, B b → Tot (rest b) P) : Tot (Go.Ev.lb x ret rest) P := by
  obtain ⟨r, rfl, q⟩ := h
  cases r with
  | inl a => exact h1 a q
  | inr b => exact h2 b q
theorem t_prog {K : Nat} (hK : 1000 ≤ K) {c : Cur} (hc : CurOk c) : Tot (spec_l3Prog.f K c) ProP := by
  unfold spec_l3Prog.f
  refine Tot.jn CurOk (fun c1 k1 => Tot.ret ⟨k1, one_few (by omega) (nd_S e0_S e0_S)⟩) fun j hj => ?_
  exact Tot.lb (prog_l0 hK K 0 c (by omega) (by omega) (by omega) hc) (fun a h => Tot.ret h) fun c1 k1 => hj c1 k1
/-! ### Loose ones -/
def szL : Nat → Nat
  | 0 => 1
  | m + 1 => 3 * szL m + 1
theorem arity_nn (k : Int) : (0 : Int) ≤ arityN k ∧ (arityN k : Int) ≤ 3 := by have := arity_le k; omega
theorem loose_l0 {m : Nat} {K : Nat} (hK : 1000 ≤ K) {r : spec_l1Cur → Int → Option (List impl_Node × spec_l1Cur)} {a1 : Int} (ha : 0 < a1) (ha2 : a1 ≤ 100)
    (hr : ∀ c (a : Int), CurOk c → a < a1 → -100 ≤ a → Tot (r c a) fun x => CurOk x.2 ∧ Few m x.1) (v4 : Int) :
    ∀ (k : Nat) (i : Int) (c : Cur) (ps : List (List Nd)), 0 ≤ i → i ≤ arityN v4 → (arityN v4 : Int) - i < k → CurOk c → (ps.length : Int) = i → (∀ p ∈ ps, Few m p) →
      Tot (spec_l3Loose.l0 r a1 v4 K k i c ps) fun x => CurOk x.2 ∧ (x.1.length : Int) = arityN v4 ∧ ∀ p ∈ x.1, Few m p := by
  have h3 := arity_nn v4
  intro k
  induction k with
  | zero => intro i c ps h0 h1 h; omega
  | succ k ih =>
    intro i c ps h0 h1 hk hc hl hp
    rw [spec_l3Loose.l0, spec_arity, Option.bind_some]
    refine Tot.ite (fun h => ?_) (fun _ => Tot.ret ⟨hc, by show (ps.length : Int) = _; omega, hp⟩)
    refine Tot.bind2 (t_below K 2 hc) fun y c1 ⟨k1, b1, b2⟩ => ?_
    have b3 := b2 (by omega)
    simp only at b1 b3
    have e : w64 (w64 (a1 - 1) - y) = a1 - 1 - y := by rw [w64_of (x := a1 - 1) (by omega) (by omega), w64_of (by omega) (by omega)]
    have hg : Tot (r c1 (w64 (w64 (a1 - 1) - y))) fun x => CurOk x.2 ∧ Few m x.1 := by rw [e]; exact hr c1 _ k1 (by omega) (by omega)
    refine Tot.bind2 hg fun y2 c2 ⟨k2, f2⟩ => Tot.gd (by omega) ?_
    rw [show w64 (i + 1) = i + 1 from w64_of (by omega) (by omega)]
    refine ih (i + 1) c2 _ (by omega) (by omega) (by omega) k2 (by simp only [List.length_append, List.length_cons, List.length_nil]; omega) fun p hq => ?_
    rcases List.mem_append.1 hq with q | q
    · exact hp p q
    · rw [List.mem_singleton] at q; subst q; exact f2
theorem t_looseb {m : Nat} (hm : m ≤ 300) {K : Nat} (hK : 1000 ≤ K) {r : spec_l1Cur → Int → Option (List impl_Node × spec_l1Cur)} {a1 : Int} (ha2 : a1 ≤ 100)
    (hr : 0 < a1 → ∀ c (a : Int), CurOk c → a < a1 → -100 ≤ a → Tot (r c a) fun x => CurOk x.2 ∧ Few m x.1) {c : Cur} (hc : CurOk c) :
    Tot (spec_l3Loose.b r K c a1) fun x => CurOk x.2 ∧ Few (3 * m + 1) x.1 := by
  unfold spec_l3Loose.b
  refine Tot.bind2 (t_below K 19 hc) fun y1 c1 ⟨k1, b1, b2⟩ => ?_
  have b3 := b2 (by omega)
  simp only at b1 b3
  refine Tot.jn (fun (x : Int × Cur) => CurOk x.2 ∧ (a1 ≤ 0 → arityN x.1 = 0)) (fun x hx => ?_) fun j hj => Tot.ite (fun h => Tot.bind2 (t_pickInt K _ (by decide) k1) fun y7 c2 ⟨k2, h2⟩ => hj _ ⟨k2, fun _ => ?_⟩) (fun h => hj _ ⟨k1, fun q => absurd q h⟩)
  rotate_left
  · simp only [List.mem_cons, List.mem_nil_iff, or_false] at h2
    rcases h2 with rfl | rfl | rfl | rfl <;> rfl
  obtain ⟨v4, c2⟩ := x
  obtain ⟨k2, q2⟩ := hx
  simp only at q2
  refine Tot.jn (fun (x : Cur × Nd) => CurOk x.1 ∧ NdS x.2) (fun x hx => ?_) fun j hj => ?_
  rotate_left
  · rw [spec_names, Option.bind_some]
    refine Tot.ite (fun _ => Tot.bind2 (t_pickS K _ (by decide) (by decide) k2) fun y c3 ⟨k3, s3⟩ => hj _ ⟨k3, nd_S s3 e0_S⟩) (fun _ => hj _ ⟨k2, nd_S e0_S e0_S⟩)
  obtain ⟨c3, n3⟩ := x
  obtain ⟨k3, s3⟩ := hx
  refine Tot.jn (fun (x : Cur × Nd) => CurOk x.1 ∧ NdS x.2) (fun x hx => ?_) fun j hj => ?_
  rotate_left
  · rw [spec_names, Option.bind_some]
    refine Tot.ite (fun _ => Tot.bind2 (t_pickS K _ (by decide) (by decide) k3) fun y c3 ⟨k3, s4⟩ => hj _ ⟨k3, nd_S s3.1 s4⟩) (fun _ => hj _ ⟨k3, s3⟩)
  obtain ⟨c4, n4⟩ := x
  obtain ⟨k4, s4⟩ := hx
  refine Tot.jn (fun (x : Cur × Nd) => CurOk x.1 ∧ NdS x.2) (fun x hx => ?_) fun j hj => Tot.ite (fun _ => Tot.bind2 (t_below K 9 k4) fun y c5 ⟨k5, _, _⟩ => hj _ ⟨k5, nd_S s4.1 s4.2⟩) (fun _ => hj _ ⟨k4, s4⟩)
  obtain ⟨c5, n5⟩ := x
  obtain ⟨k5, s5⟩ := hx
  refine Tot.jn (fun (x : Cur × Nd) => CurOk x.1 ∧ NdS x.2) (fun x hx => ?_) fun j hj => Tot.ite (fun _ => Tot.bind2 (t_below K 4 k5) fun y c5 ⟨k5, _, _⟩ => hj _ ⟨k5, nd_S s5.1 s5.2⟩) (fun _ => hj _ ⟨k5, s5⟩)
  obtain ⟨c6, n6⟩ := x
  obtain ⟨k6, s6⟩ := hx
  refine Tot.jn (fun (x : List (List Nd) × Cur) => CurOk x.2 ∧ x.1.length ≤ 3 ∧ ∀ p ∈ x.1, Few m p) (fun x hx => ?_) fun j hj => ?_
  rotate_left
  · have h3 := arity_nn v4
    by_cases h0 : 0 < a1
    · refine Tot.bind2 (loose_l0 hK h0 ha2 (hr h0) v4 K 0 c6 [] (by omega) (by omega) (by omega) k6 rfl (by simp)) fun y c7 ⟨k7, l7, f7⟩ => hj _ ⟨k7, ?_, f7⟩
      simp only at l7 ⊢; omega
    · have e0 := q2 (by omega)
      obtain ⟨K', rfl⟩ := succ_of (show 0 < K by omega)
      rw [spec_l3Loose.l0, spec_arity, Option.bind_some, e0, if_neg (by omega), Option.bind_some]
      exact hj _ ⟨k6, by simp, by simp⟩
  obtain ⟨ps, c7⟩ := x
  obtain ⟨k7, l7, f7⟩ := hx
  have mk : ∀ (ps : List (List Nd)), (∀ p ∈ ps, Few m p) → ps.length ≤ 3 → Tot ((spec_l3Make.f K n6 ps).bind fun y => some (y, c7)) (fun x => CurOk x.2 ∧ Few (3 * m + 1) x.1) := fun ps hp h3 =>
    Tot.bind (t_make hK s6 hp h3 hm) fun y hy => Tot.ret ⟨k7, hy⟩
  refine Tot.ite (fun _ => Tot.ret ⟨k7, one_few (by omega) s6⟩) (fun q0 => Tot.ite (fun q1 => ?_) (fun q1 => Tot.ite (fun q2 => ?_) (fun q2 => ?_)))
  · exact Tot.bind (at_mem (by omega) (by omega)) fun a ha => mk _ (few1 (f7 _ ha)) (by simp)
  · exact Tot.bind (at_mem (by omega) (by omega)) fun a ha => Tot.bind (at_mem (by omega) (by omega)) fun b hb => mk _ (few2 (f7 _ ha) (f7 _ hb)) (by simp)
  · exact Tot.bind (at_mem (by omega) (by omega)) fun a ha => Tot.bind (at_mem (by omega) (by omega)) fun b hb => Tot.bind (at_mem (by omega) (by omega)) fun d hd => mk _ (few3 (f7 _ ha) (f7 _ hb) (f7 _ hd)) (by simp)
theorem t_looser {K : Nat} (hK : 1000 ≤ K) : ∀ (m d : Nat) (c : Cur) (a1 : Int), m ≤ 3 → m < d → CurOk c → a1 ≤ m → Tot (spec_l3Loose.r K d c a1) fun x => CurOk x.2 ∧ Few (szL (m + 1)) x.1
  | m, 0, c, a1, _, h, _, _ => by omega
  | 0, d + 1, c, a1, _, _, hc, ha => by
    rw [spec_l3Loose.r]
    exact t_looseb (m := szL 0) (by decide) hK (by omega) (fun h => by omega) hc
  | m + 1, d + 1, c, a1, h5, hd, hc, ha => by
    rw [spec_l3Loose.r]
    have hz : szL (m + 1) ≤ 300 := by
      have : m = 0 ∨ m = 1 ∨ m = 2 := by omega
      rcases this with rfl | rfl | rfl <;> simp [szL]
    exact t_looseb (m := szL (m + 1)) hz hK (by omega) (fun h c a hc hlt _ => t_looser hK m d c a (by omega) (by omega) hc (by omega)) hc
end Go.Proofs.YtfkanjgfjejgiaaDoorE
