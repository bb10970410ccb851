/- The reference's draws of programs come to an end: l3Gen and its kin. -/
import Derived.Test.YtfkanjgfjejgiaaDoorZUvDr
set_option linter.unusedSimpArgs false
set_option linter.unusedVariables false
namespace Go.Proofs.YtfkanjgfjejgiaaDoorE
open Go.Ev Go.RowKit
set_option linter.unusedVariables false
theorem t_pickS (K : Nat) {c : Cur} (l : List ByteArray) (hl : 0 < l.length) (hs : ∀ x ∈ l, x.size ≤ 100) (hc : CurOk c) : Tot (spec_l1Pick.f K c l) fun r => CurOk r.2 ∧ r.1.size ≤ 100 :=
  (t_pick K l hl hc).mono fun r h => ⟨h.1, hs _ h.2⟩
def meas (a1 a2 : Int) : Nat := if a2 ≤ 0 then (if a1 = 0 ∨ a1 = 3 then 0 else 1) else a2.toNat + 1
def szB : Nat → Nat
  | 0 => 1
  | m + 1 => 3 * szB m + 1
theorem szB_pos (m : Nat) : 1 ≤ szB m := by cases m <;> simp [szB]
theorem szB_up (m : Nat) : szB m ≤ szB (m + 1) := by rw [szB]; omega
def Nm (m : Nat) (a3 : List ByteArray) (a4 : List Int) : Prop := a3.length = a4.length ∧ a3.length + 2 * m ≤ 100 ∧ ∀ s ∈ a3, s.size ≤ 100
theorem nm0 {m : Nat} {a3 : List ByteArray} {a4 : List Int} (h : Nm (m + 1) a3 a4) : Nm m a3 a4 := ⟨h.1, by have := h.2.1; omega, h.2.2⟩
theorem nm1 {m : Nat} {a3 : List ByteArray} {a4 : List Int} (h : Nm (m + 1) a3 a4) {y : ByteArray} (hy : y.size ≤ 100) (t : Int) : Nm m (a3 ++ [y]) (a4 ++ [t]) := by
  refine ⟨by simp [h.1], by have := h.2.1; simp; omega, fun s hs => ?_⟩
  rcases List.mem_append.1 hs with q | q
  · exact h.2.2 s q
  · rw [List.mem_singleton] at q; subst q; exact hy
theorem nm2 {m : Nat} {a3 : List ByteArray} {a4 : List Int} (h : Nm (m + 1) a3 a4) {y z : ByteArray} (hy : y.size ≤ 100) (hz : z.size ≤ 100) (t u : Int) : Nm m (a3 ++ [y] ++ [z]) (a4 ++ [t, u]) := by
  refine ⟨by simp [h.1], by have := h.2.1; simp; omega, fun s hs => ?_⟩
  rcases List.mem_append.1 hs with q | q
  · rcases List.mem_append.1 q with q | q
    · exact h.2.2 s q
    · rw [List.mem_singleton] at q; subst q; exact hy
  · rw [List.mem_singleton] at q; subst q; exact hz
theorem meas_1 {m : Nat} {a1 a2 : Int} (h0 : 0 < a2) (h1 : a2 ≤ m) : meas a1 (a2 - 1) ≤ m := by
  unfold meas; split
  · split <;> omega
  · omega
theorem meas_2 {m : Nat} {a1 a2 : Int} (h0 : 0 < a2) (h1 : a2 ≤ m) : meas a1 (a2 - 2) ≤ m := by
  unfold meas; split
  · split <;> omega
  · omega
abbrev GenF := spec_l1Cur → Int → Int → (List ByteArray) → (List Int) → Option (List impl_Node × spec_l1Cur)
def GenP (m : Nat) (r : List Nd × Cur) : Prop := CurOk r.2 ∧ Few (szB m) r.1
def GenOk (m : Nat) (r : GenF) : Prop := ∀ c a1 a2 a3 a4, CurOk c → meas a1 a2 ≤ m → Nm m a3 a4 → -100 + 10 * (m : Int) ≤ a2 → a2 ≤ 100 → Tot (r c a1 a2 a3 a4) (GenP m)
theorem few1 {m : Nat} {a : List Nd} (h : Few m a) : ∀ p ∈ [a], Few m p := by intro p hp; rw [List.mem_singleton] at hp; subst hp; exact h
theorem few2 {m : Nat} {a b : List Nd} (h : Few m a) (k : Few m b) : ∀ p ∈ [a, b], Few m p := by
  intro p hp
  rcases List.mem_cons.1 hp with rfl | hp
  · exact h
  · exact few1 k p hp
theorem few3 {m : Nat} {a b d : List Nd} (h : Few m a) (k : Few m b) (l : Few m d) : ∀ p ∈ [a, b, d], Few m p := by
  intro p hp
  rcases List.mem_cons.1 hp with rfl | hp
  · exact h
  · exact few2 k l p hp
theorem nd_S {a b c d e : Int} {s t : ByteArray} (hs : s.size ≤ 100) (ht : t.size ≤ 100) : NdS ⟨a, b, c, d, e, s, t⟩ := ⟨hs, ht⟩
theorem e0_S : (⟨#[]⟩ : ByteArray).size ≤ 100 := by show 0 ≤ 100; omega
theorem t_any {m : Nat} (m8 : m ≤ 8) (hm : szB m ≤ 300) {K : Nat} (hK : 1000 ≤ K) {r : GenF} (hr : GenOk m r) {c : Cur} {a1 a2 : Int} {a3 : List ByteArray} {a4 : List Int} (hc : CurOk c) (h0 : 0 < a2) (h1 : a2 ≤ m) (h2 : a2 ≤ 100) (hN : Nm (m + 1) a3 a4) :
    Tot (spec_l3Any.b r K c a1 a2 a3 a4) (GenP (m + 1)) := by
  have d1 : w64 (a2 - 1) = a2 - 1 := w64_of (by omega) (by omega)
  have d2 : w64 (a2 - 2) = a2 - 2 := w64_of (by omega) (by omega)
  have l3 := hN.2.1
  have l4 : a4.length = a3.length := hN.1.symm
  have r1 : ∀ (c : Cur) (t : Int) (x : List ByteArray) (y : List Int), CurOk c → Nm m x y → Tot (r c t (w64 (a2 - 1)) x y) (GenP m) := fun c t x y hc hn => by rw [d1]; exact hr _ _ _ _ _ hc (meas_1 h0 h1) hn (by omega) (by omega)
  have r2 : ∀ (c : Cur) (t : Int) (x : List ByteArray) (y : List Int), CurOk c → Nm m x y → Tot (r c t (w64 (a2 - 2)) x y) (GenP m) := fun c t x y hc hn => by rw [d2]; exact hr _ _ _ _ _ hc (meas_2 h0 h1) hn (by omega) (by omega)
  have mk : ∀ (c : Cur) (n : Nd) (ps : List (List Nd)), CurOk c → NdS n → (∀ p ∈ ps, Few (szB m) p) → ps.length ≤ 3 → Tot ((spec_l3Make.f K n ps).bind fun y => some (y, c)) (GenP (m + 1)) := fun c n ps hc hn hp h3 =>
    Tot.bind (t_make hK hn hp h3 hm) fun y hy => Tot.ret ⟨hc, hy⟩
  unfold spec_l3Any.b
  refine Tot.bind2 (t_pickS K _ (by decide) (by decide) hc) fun y1 c1 ⟨k1, s1⟩ => ?_
  refine Tot.bind2 (t_pickS K _ (by decide) (by decide) k1) fun y4 c2 ⟨k2, s4⟩ => ?_
  have n0 : Nm m a3 a4 := nm0 hN
  have n1 : ∀ t : Int, Nm m ((([] : List ByteArray) ++ a3) ++ [y1]) ((([] : List Int) ++ a4) ++ [t]) := fun t => nm1 hN s1 t
  have n2 : ∀ t u : Int, Nm m ((([] : List ByteArray) ++ ((([] : List ByteArray) ++ a3) ++ [y1])) ++ [y4]) ((([] : List Int) ++ a4) ++ [t, u]) := fun t u => nm2 hN s1 s4 t u
  have ha3 : (([] : List ByteArray) ++ a3).length = a3.length := rfl
  have ha4 : (([] : List Int) ++ a4).length = a4.length := rfl
  have hb3 : ((([] : List ByteArray) ++ a3) ++ [y1]).length = a3.length + 1 := by simp
  have hc3 : (([] : List ByteArray) ++ ((([] : List ByteArray) ++ a3) ++ [y1])).length = a3.length + 1 := by simp
  refine Tot.gd (by omega) (Tot.gd (by rw [ha3]; omega) ?_)
  refine Tot.bind2 (t_below K 6 k2) fun y7 c3 ⟨k3, _, _⟩ => ?_
  refine Tot.jn (fun _ => True) (fun v10 _ => Tot.ite (fun _ => ?_) (fun _ => Tot.ite (fun _ => ?_) (fun _ => Tot.ite (fun _ => ?_) (fun _ => Tot.ite (fun _ => ?_) (fun _ => ?_))))) fun j hj => Tot.ite (fun _ => hj _ trivial) (fun _ => hj _ trivial)
  · refine Tot.bind2 (t_below K 5 k3) fun y13 c4 ⟨k4, _, _⟩ => ?_
    refine Tot.bind2 (r1 c4 _ _ _ k4 n0) fun y16 c5 ⟨k5, f5⟩ => ?_
    refine Tot.gd (by omega) (Tot.gd (by rw [ha4]; omega) ?_)
    refine Tot.bind2 (r1 c5 _ _ _ k5 (n1 _)) fun y19 c6 ⟨k6, f6⟩ => ?_
    exact mk c6 _ _ k6 (nd_S s1 e0_S) (few2 f5 f6) (by simp)
  · refine Tot.gd (by rw [hb3]; omega) (Tot.gd (by rw [hc3]; omega) (Tot.gd (by omega) (Tot.gd (by rw [ha4]; omega) ?_)))
    refine Tot.bind2 (r1 c3 _ _ _ k3 (n2 _ _)) fun y25 c5 ⟨k5, f5⟩ => ?_
    refine Tot.gd (by omega) (Tot.gd (by rw [ha4]; omega) ?_)
    refine Tot.bind2 (r1 c5 _ _ _ k5 (n1 _)) fun y28 c6 ⟨k6, f6⟩ => ?_
    exact mk c6 _ _ k6 (nd_S s1 s4) (few2 f5 f6) (by simp)
  · refine Tot.bind2 (r2 c3 _ _ _ k3 n0) fun y34 c4 ⟨k4, f4⟩ => ?_
    refine Tot.bind2 (r1 c4 _ _ _ k4 n0) fun y37 c5 ⟨k5, f5⟩ => ?_
    refine Tot.bind2 (r2 c5 _ _ _ k5 n0) fun y40 c6 ⟨k6, f6⟩ => ?_
    exact mk c6 _ _ k6 (nd_S e0_S e0_S) (few3 f4 f5 f6) (by simp)
  · refine Tot.gd (by rw [hb3]; omega) (Tot.gd (by rw [hc3]; omega) ?_)
    refine Tot.bind2 (r1 c3 _ _ _ k3 n0) fun y46 c4 ⟨k4, f4⟩ => ?_
    refine Tot.bind2 (r2 c4 _ _ _ k4 n0) fun y49 c5 ⟨k5, f5⟩ => ?_
    refine Tot.gd (by omega) (Tot.gd (by rw [ha4]; omega) ?_)
    refine Tot.bind2 (r1 c5 _ _ _ k5 (n2 _ _)) fun y52 c6 ⟨k6, f6⟩ => ?_
    exact mk c6 _ _ k6 (nd_S s1 s4) (few3 f4 f5 f6) (by simp)
  · refine Tot.bind2 (r1 c3 _ _ _ k3 n0) fun y57 c4 ⟨k4, f4⟩ => ?_
    refine Tot.gd (by omega) (Tot.gd (by rw [ha4]; omega) ?_)
    refine Tot.bind2 (r2 c4 _ _ _ k4 (n1 _)) fun y60 c5 ⟨k5, f5⟩ => ?_
    exact mk c5 _ _ k5 (nd_S s1 e0_S) (few2 f4 f5) (by simp)
set_option maxHeartbeats 4000000 in
theorem t_num {m : Nat} (m8 : m ≤ 8) (hm : szB m ≤ 300) {K : Nat} (hK : 1000 ≤ K) {r : GenF} (hr : GenOk m r) {c : Cur} {a2 : Int} {a3 : List ByteArray} {a4 : List Int} (hc : CurOk c) (h0 : 0 < a2) (h1 : a2 ≤ m) (h2 : a2 ≤ 100) (hN : Nm (m + 1) a3 a4) :
    Tot (spec_l3Num.b r K c a2 a3 a4) (GenP (m + 1)) := by
  have d1 : w64 (a2 - 1) = a2 - 1 := w64_of (by omega) (by omega)
  have d2 : w64 (a2 - 2) = a2 - 2 := w64_of (by omega) (by omega)
  have hN := nm0 hN
  have last : ∀ (c : Cur), CurOk c → Tot ((spec_l1Below.f K c 9).bind fun (y62, y63) => ((spec_l3Int.f K y62).bind fun y65 => (some (y65, y63)))) (GenP (m + 1)) := fun c hc => by
    refine Tot.bind (t_below K 9 hc) ?_
    rintro ⟨y, c1⟩ ⟨k1, _, _⟩
    refine Tot.ret ⟨k1, ?_⟩
    refine ⟨by simp, by have := szB_pos (m + 1); simp; omega, fun n hn => ?_⟩
    rw [List.mem_singleton] at hn; subst hn
    exact ⟨e0_S, e0_S⟩
  unfold spec_l3Num.b
  simp only [jn, d1, d2]
  refine Tot.bind (t_below K 8 hc) ?_
  rintro ⟨y2, c3⟩ ⟨k3, _, _⟩
  simp only
  repeat' first
    | (refine Tot.ite (fun _ => ?_) (fun _ => ?_))
    | exact last _ (by assumption)
    | (refine Tot.bind (hr _ _ _ _ _ (by assumption) (by first | exact meas_1 h0 h1 | exact meas_2 h0 h1) hN (by omega) (by omega)) ?_; rintro ⟨_, _⟩ ⟨_, _⟩; simp only)
    | (refine Tot.bind (t_once K _ (by assumption)) ?_; rintro ⟨_, _⟩ _; simp only)
    | (refine Tot.bind (t_below K _ (by assumption)) ?_; rintro ⟨_, _⟩ ⟨_, _, _⟩; simp only)
    | (refine Tot.bind (t_make (m := szB m) hK (nd_S e0_S e0_S) (by first | (refine few3 ?_ ?_ ?_ <;> assumption) | (refine few2 ?_ ?_ <;> assumption) | (refine few1 ?_ <;> assumption)) (by simp) hm) ?_; intro _ _)
    | exact Tot.ret ⟨by assumption, by assumption⟩
end Go.Proofs.YtfkanjgfjejgiaaDoorE
