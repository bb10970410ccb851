/- The reference's draws, to the end: l3Some, l3Bent, l11Prog, l16At, l1New. -/
import Derived.Test.YtfkanjgfjejgiaaDoorZUvDr3
set_option linter.unusedSimpArgs false
set_option linter.unusedVariables false
namespace Go.Proofs.YtfkanjgfjejgiaaDoorE
open Go.Ev Go.RowKit
set_option linter.unusedVariables false
def FewE (m : Nat) (l : List Nd) : Prop := l.length ≤ m ∧ ∀ n ∈ l, NdS n
theorem Few.e {m : Nat} {l : List Nd} (h : Few m l) : FewE m l := ⟨h.2.1, h.2.2⟩
def BenP (r : List Nd × Cur) : Prop := CurOk r.2 ∧ FewE 364 r.1
theorem t_loose {K : Nat} (hK : 1000 ≤ K) {c : Cur} (hc : CurOk c) : Tot (spec_l3Loose.f K c 3) ProP :=
  (t_looser hK 3 K c 3 (by omega) (by omega) hc (by omega)).mono fun r h => ⟨h.1, few_up h.2 (by decide)⟩
theorem t_some {K : Nat} (hK : 1000 ≤ K) {c : Cur} (hc : CurOk c) : Tot (spec_l3Some.f K c) ProP := by
  unfold spec_l3Some.f
  refine Tot.bind2 (t_once K 3 hc) fun y c1 k1 => Tot.ite (fun _ => ?_) (fun _ => ?_)
  · exact Tot.bind2 (t_loose hK k1) fun y c2 h => Tot.ret h
  · exact Tot.bind2 (t_prog hK k1) fun y c2 h => Tot.ret h
theorem bent_l0 {K : Nat} (hK : 1000 ≤ K) : ∀ (k : Nat) (c : Cur) (l : List Nd), CurOk c → FewE 364 l → 200 - (l.length : Int) < k → 0 < k → Tot (spec_l3Bent.l0 K k c l) BenP := by
  intro k
  induction k with
  | zero => intro c l _ _ _ h; omega
  | succ k ih =>
    intro c l hc hl hk _
    rw [spec_l3Bent.l0]
    refine Tot.bind2 (t_below K 2 hc) fun y c1 ⟨k1, b1, b2⟩ => ?_
    have b3 := b2 (by omega)
    simp only at b1 b3
    refine Tot.ite (fun h => Tot.gd (by have := hl.1; omega) ?_) (fun _ => Tot.ret ⟨k1, hl⟩)
    rw [w64_of (by omega) (by omega)] at h
    refine ih c1 _ k1 ⟨by simp; omega, fun n hn => ?_⟩ (by simp; omega) (by omega)
    rcases List.mem_append.1 hn with q | q
    · exact hl.2 n q
    · rw [List.mem_singleton] at q; subst q; exact nd_S e0_S e0_S
theorem few_set {m : Nat} {l : List Nd} (h : FewE m l) (i : Nat) {x : Nd} (hx : NdS x) : FewE m (l.set i x) := by
  refine ⟨by simpa using h.1, fun n hn => ?_⟩
  rcases List.mem_or_eq_of_mem_set hn with q | q
  · exact h.2 n q
  · subst q; exact hx
theorem t_bent {K : Nat} (hK : 1000 ≤ K) {c : Cur} (hc : CurOk c) : Tot (spec_l3Bent.f K c) BenP := by
  unfold spec_l3Bent.f
  refine Tot.bind2 (t_some hK hc) fun l c1 ⟨k1, f1⟩ => ?_
  have l1 : 1 ≤ l.length := f1.1
  have l2 : l.length ≤ 364 := f1.2.1
  refine Tot.gd (by omega) ?_
  rw [List.nil_append]
  refine Tot.bind2 (t_below K _ k1) fun y4 c2 ⟨k2, b1, b2⟩ => ?_
  have b3 := b2 (by omega)
  have fe := f1.e
  simp only at b1 b3
  have at_y : Tot (at_ l y4) fun x => x ∈ l := at_mem b1 b3
  refine Tot.jn (fun (x : List Nd × Cur) => BenP x) (fun x hx => Tot.ret hx) fun j hj => ?_
  refine Tot.bind2 (t_below K 14 k2) fun y9 c3 ⟨k3, _, _⟩ => ?_
  refine Tot.ite (fun _ => Tot.gd (by omega) (Tot.ret ⟨k3, by show (l.take _).length ≤ 364; rw [List.length_take]; omega, fun n hn => fe.2 n (List.mem_of_mem_take hn)⟩)) fun _ => ?_
  refine Tot.ite (fun _ => Tot.bind2 (t_pickInt K _ (by simp) k3) fun z c4 ⟨k4, _⟩ => Tot.bind at_y fun x hx => hj _ ⟨k4, few_set fe _ (fe.2 x hx)⟩) fun _ => ?_
  refine Tot.ite (fun _ => Tot.bind2 (t_pickInt K _ (by simp) k3) fun z c4 ⟨k4, _⟩ => Tot.bind at_y fun x hx => hj _ ⟨k4, few_set fe _ (fe.2 x hx)⟩) fun _ => ?_
  refine Tot.ite (fun _ => Tot.bind2 (t_pickS K _ (by decide) (by decide) k3) fun z c4 ⟨k4, s4⟩ => Tot.bind at_y fun x hx => hj _ ⟨k4, few_set fe _ ⟨s4, (fe.2 x hx).2⟩⟩) fun _ => ?_
  refine Tot.ite (fun _ => Tot.bind2 (t_pickInt K _ (by simp) k3) fun z c4 ⟨k4, _⟩ => Tot.bind at_y fun x hx => hj _ ⟨k4, few_set fe _ (fe.2 x hx)⟩) fun _ => ?_
  refine Tot.ite (fun _ => Tot.bind at_y fun x hx => hj _ ⟨k3, few_set fe _ ⟨(fe.2 x hx).1, by show (1 : Nat) ≤ 100; omega⟩⟩) fun _ => ?_
  refine Tot.ite (fun _ => Tot.bind2 (bent_l0 hK K c3 l k3 fe (by omega) (by omega)) fun z c4 h => hj _ h) fun _ => hj _ ⟨k3, fe⟩
/-! ### the texts that are parsed -/
theorem new_l0 (a : List Int) (ha : a.length ≤ 2000000) (K : Nat) : ∀ (k : Nat) (v i : Int), 0 ≤ i → (a.length : Int) - i < k → 0 < k → Tot (spec_l1New.l0 a K k v i) fun _ => True := by
  intro k
  induction k with
  | zero => intro v i _ _ h; omega
  | succ k ih =>
    intro v i h0 h1 _
    rw [spec_l1New.l0]
    refine Tot.jn (fun (b : Bool) => b = true → i < a.length) (fun b hb => ?_) fun j hj => Tot.ite (fun h => hj _ fun _ => h) (fun _ => hj _ fun e => by cases e)
    refine Tot.ite (fun h => ?_) (fun _ => Tot.ret trivial)
    have h3 := hb h
    refine Tot.bind (at_some h0 h3) fun x _ => ?_
    rw [w64_of (x := i + 1) (by omega) (by omega)]
    exact ih _ (i + 1) (by omega) (by omega) (by omega)
theorem t_new {K : Nat} (a : List Int) (ha : a.length ≤ 2000000) (hK : 3000000 ≤ K) : Tot (spec_l1New.f K a) CurOk := by
  unfold spec_l1New.f
  refine Tot.jn (fun _ => True) (fun v _ => Tot.ret ⟨by show (0 : Int) ≤ 0; omega, by show (0 : Int) ≤ a.length; omega, by show a.length ≤ 1000000000; omega⟩) fun j hj => ?_
  exact Tot.bind (new_l0 a ha K K _ 0 (by omega) (by omega) (by omega)) fun x _ => hj _ trivial
end Go.Proofs.YtfkanjgfjejgiaaDoorE
