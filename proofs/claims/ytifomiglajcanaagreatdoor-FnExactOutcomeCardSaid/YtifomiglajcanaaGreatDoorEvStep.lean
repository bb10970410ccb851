/- The evaluator: EvStep. -/
import Derived.Test.YtifomiglajcanaaGreatDoorEvHeap
set_option linter.unusedSimpArgs false
set_option linter.unusedVariables false
namespace Go.Ev
set_option linter.unusedVariables false
variable {X M : Nat → Nat → Prop} {w w' : World} {h h' : Hp} {c c' : Cz}

def Cz.put (c : Cz) (s k : Nat) (v : Value) : Cz := fun s' k' => if s' = s ∧ k' = k then v else c s' k'
theorem Cz.put_same (c : Cz) (s k : Nat) (v : Value) : c.put s k v s k = v := by simp [Cz.put]
theorem Cz.put_ne (c : Cz) {s k s' k' : Nat} (v : Value) (hn : ¬ (s' = s ∧ k' = k)) : c.put s k v s' k' = c s' k' := by simp only [Cz.put, if_neg hn]
theorem Hp.put_same (h : Hp) (s k : Nat) (x : Nat × Option Ob) : h.put s k x s k = x := by simp [Hp.put_def]
theorem Hp.put_ne (h : Hp) {s k s' k' : Nat} (x : Nat × Option Ob) (hn : ¬ (s' = s ∧ k' = k)) : h.put s k x s' k' = h s' k' := by simp only [Hp.put_def, if_neg hn]
theorem Hp.mod_same [Base] (h : Hp) (s k : Nat) (ob : Option Ob) : h.mod s k ob s k = ((h s k).1, ob) := Hp.put_same ..
theorem Hp.mod_ne [Base] (h : Hp) {s k s' k' : Nat} (ob : Option Ob) (hn : ¬ (s' = s ∧ k' = k)) : h.mod s k ob s' k' = h s' k' := Hp.put_ne _ _ hn
theorem Hp.mod_1 [Base] (h : Hp) (s k s' k' : Nat) (ob : Option Ob) : (h.mod s k ob s' k').1 = (h s' k').1 := by
  by_cases e : s' = s ∧ k' = k
  · obtain ⟨rfl, rfl⟩ := e; rw [Hp.mod_same]
  · rw [Hp.mod_ne _ _ e]

theorem idx_lt {i j n sz : Nat} (hi : i < n) (hj : j < sz) : i * sz + j < n * sz := by
  have := Nat.mul_le_mul_right sz (show i + 1 ≤ n from hi)
  rw [Nat.add_mul] at this; omega
theorem OwnRow.cell {w : World} {g : Nat} {sz n m cap : Nat} {us : List Value} (h : OwnRow w (.slice (some ⟨g, 0, none⟩) m cap) sz n us) {q : Nat} {u : Value} (hu : us[q]? = some u) :
    w.cell? ⟨g, q, none⟩ = some u ∧ w.frozen? ⟨g, q, none⟩ = false := by
  rcases h.2 with ⟨e, _⟩ | ⟨g', cap', cur, e, hv, hg, _, _, hsz, ht⟩
  · cases e
  · injection hv with hv; injection hv with hv; injection hv with hv; subst hv
    have hq : q < n * sz := by have := (List.getElem?_eq_some_iff.1 hu).1; rw [h.1] at this; exact this
    refine ⟨?_, by simp [World.frozen?, hg]⟩
    simp only [World.cell?, hg]
    rw [← ht, List.getElem?_take] at hu
    simpa [hq] using hu

/-- A row of one's own, seen as data that does not change. -/
theorem OwnR.ro [Base] {B B' : Nat → Nat → Prop} {v : Value} {f : Bool} {sz : Nat} {xs : List (List D)} (r : OwnR B w v f sz xs) (hb : ∀ g o, g < w.heap.size → B' g o → B g o)
    (hfree : ∀ g o, cellsOf (.row true f sz xs) v g o → ¬ B' g o) : RO B' w (.l f sz xs) v := by
  obtain ⟨us, ho, hz, hf, hr⟩ := r
  have hu : ∀ (i : Nat) x (j : Nat) y, xs[i]? = some x → x[j]? = some y → RO B' w y (us.getD (i * sz + j) undef) := by
    intro i x j y a b
    obtain ⟨u, h1, h2⟩ := hr i x j y a b
    rw [List.getD_eq_getElem?_getD, h1]
    exact h2.keep (fun _ _ _ _ => rfl) hb
  rcases ho.2 with ⟨rfl, h0⟩ | ⟨g, cap, cur, e, rfl, hg, hnc, hcm, hcs, ht⟩
  · obtain rfl : xs = [] := List.eq_nil_of_length_eq_zero h0
    exact .l f sz [] none 0 (fun _ _ => undef) (by simp) (by simp) (by simp) (fun h => absurd rfl h) (by simp)
  · refine .l f sz xs _ cap (fun i j => us.getD (i * sz + j) undef) hnc hz hf (fun hne => ⟨g, 0, rfl, fun i j hi hj => ⟨?_, hfree _ _ rfl⟩⟩) hu
    have hlt := idx_lt hi hj
    have hlen := ho.1
    obtain ⟨u, hu'⟩ : ∃ u, us[i * sz + j]? = some u := ⟨_, List.getElem?_eq_getElem (by omega)⟩
    rw [List.getD_eq_getElem?_getD, hu', Nat.zero_add]
    exact (ho.cell hu').1

theorem Mv.freeze [Base] (H : HR X w h c) {s k : Nat} {f : Bool} {sz : Nat} {xs : List (List D)} (e : (h s k).2 = some (.row true f sz xs)) :
    Mv X (fun _ _ => False) w h c w (h.mod s k (some (.row false f sz xs))) c := by
  refine Mv.make H (Fr.refl _ _) (fun _ _ _ x => x.elim) ⟨fun s' k' => by rw [Hp.mod_1]; exact Nat.le_refl _, fun s' k' ob2 hb2 _ e' => ?_, fun s' k' ob2 hb2 _ e' => ?_⟩ (fun s' k' => ¬ (s' = s ∧ k' = k)) ?_ ?_ ?_ ?_
  · by_cases hn : s' = s ∧ k' = k
    · obtain ⟨rfl, rfl⟩ := hn
      rw [Hp.mod_same] at e'; injection e' with e'; subst e'
      exact ⟨rfl, _, rfl, e, rfl⟩
    · rw [Hp.mod_ne _ _ hn] at e'; exact ⟨rfl, ob2, hb2, e', rfl⟩
  · by_cases hn : s' = s ∧ k' = k
    · obtain ⟨rfl, rfl⟩ := hn
      rw [Hp.mod_same] at e'; first | (injection e' with e'; subst e'; cases hb2) | cases e'
    · rw [Hp.mod_ne _ _ hn] at e'; exact ⟨rfl, ob2, hb2, e'⟩
  · intro s' k' ob hn e'
    rw [Hp.mod_ne _ _ hn] at e'
    exact ⟨e', rfl, fun _ _ _ x => x⟩
  · intro s' k' ob g o hn e' hcell
    obtain ⟨rfl, rfl⟩ := Classical.not_not.1 hn
    rw [Hp.mod_same] at e'; injection e' with e'; subst e'; exact hcell.elim
  · intro s1 k1 s2 k2 ob ob' g o h1 h2 _ _ hne
    obtain ⟨rfl, rfl⟩ := Classical.not_not.1 h1
    obtain ⟨rfl, rfl⟩ := Classical.not_not.1 h2
    exact absurd ⟨rfl, rfl⟩ hne
  · intro hbad s' k' ob hn e'
    obtain ⟨rfl, rfl⟩ := Classical.not_not.1 hn
    rw [Hp.mod_same] at e'; injection e' with e'; subst e'
    refine OwnR.ro (B := Bad X h c) (H.ok _ _ _ e) hbad fun g o hcell => ?_
    rintro (hx | ⟨s2, k2, ob2, e2, hcell2⟩)
    · exact H.nx g o ⟨_, _, _, e, hcell⟩ hx
    · by_cases hn2 : s2 = s' ∧ k2 = k'
      · obtain ⟨rfl, rfl⟩ := hn2
        rw [Hp.mod_same] at e2; injection e2 with e2; subst e2; exact hcell2.elim
      · rw [Hp.mod_ne _ _ hn2] at e2
        exact H.sep _ _ _ _ _ _ g o e e2 (fun z => hn2 ⟨z.1.symm, z.2.symm⟩) hcell hcell2

theorem Mv.kill [Base] (H : HR X w h c) (s k : Nat) : Mv X (fun _ _ => False) w h c w (h.mod s k none) c := by
  refine Mv.make H (Fr.refl _ _) (fun _ _ _ x => x.elim) ⟨fun s' k' => by rw [Hp.mod_1]; exact Nat.le_refl _, fun s' k' ob2 hb2 _ e' => ?_, fun s' k' ob2 hb2 _ e' => ?_⟩ (fun s' k' => ¬ (s' = s ∧ k' = k)) ?_ ?_ ?_ ?_
  · by_cases hn : s' = s ∧ k' = k
    · obtain ⟨rfl, rfl⟩ := hn
      rw [Hp.mod_same] at e'; cases e'
    · rw [Hp.mod_ne _ _ hn] at e'; exact ⟨rfl, ob2, hb2, e', rfl⟩
  · by_cases hn : s' = s ∧ k' = k
    · obtain ⟨rfl, rfl⟩ := hn
      rw [Hp.mod_same] at e'; first | (injection e' with e'; subst e'; cases hb2) | cases e'
    · rw [Hp.mod_ne _ _ hn] at e'; exact ⟨rfl, ob2, hb2, e'⟩
  · intro s' k' ob hn e'
    rw [Hp.mod_ne _ _ hn] at e'
    exact ⟨e', rfl, fun _ _ _ x => x⟩
  · intro s' k' ob g o hn e' _
    obtain ⟨rfl, rfl⟩ := Classical.not_not.1 hn
    rw [Hp.mod_same] at e'; cases e'
  · intro s1 k1 s2 k2 ob ob' g o h1 h2 _ _ hne
    obtain ⟨rfl, rfl⟩ := Classical.not_not.1 h1
    obtain ⟨rfl, rfl⟩ := Classical.not_not.1 h2
    exact absurd ⟨rfl, rfl⟩ hne
  · intro _ s' k' ob hn e'
    obtain ⟨rfl, rfl⟩ := Classical.not_not.1 hn
    rw [Hp.mod_same] at e'; cases e'

/-- What a new row, or box, is: its data stands in the old world; the row itself in the new one. -/
def ObNew (B : Nat → Nat → Prop) (w : World) (h : Hp) (c : Cz) (w' : World) : Ob → Value → Prop
  | .row false f sz xs, v => RO B w (.l f sz xs) v
  | .row true f sz xs, v => ∃ us : List Value, OwnRow w' v sz xs.length us ∧ (∀ x ∈ xs, x.length = sz) ∧ (f = true → ∀ x ∈ xs, x.all D.isP = true) ∧
      ∀ (i : Nat) x (j : Nat) y, xs[i]? = some x → x[j]? = some y → ∃ u, us[i * sz + j]? = some u ∧ RO B w y u
  | .box cs, v => ∃ a : Addr, v = .pointer (some a) ∧ a.spot = none ∧ ∀ (j : Nat) x, cs[j]? = some x → x.cellOk = true ∧
    ∃ u, w'.cell? ⟨a.block, a.off + j, none⟩ = some u ∧ w'.frozen? ⟨a.block, a.off + j, none⟩ = false ∧ u.oneCell' = true ∧ RV B w h c x u
  | .lent, _ => True
  | .lentR .., _ => True
theorem ObNew.obr {B B' : Nat → Nat → Prop} (F : Fr M w w') (hM : ∀ g o, g < w.heap.size → M g o → B g o) (hb : ∀ g o, g < w.heap.size → B' g o → B g o) (N : Nm h c h' c')
    {ob : Ob} {v : Value} (r : ObNew B w h c w' ob v) : ObR B' w' h' c' ob v := by
  have hk : ∀ g o, g < w.heap.size → ¬ B g o → w'.cell? ⟨g, o, none⟩ = w.cell? ⟨g, o, none⟩ := fun g o hg hn => (F.cell g o hg fun hm => hn (hM g o hg hm)).1
  cases ob with
  | row own f sz xs =>
    cases own with
    | false => exact RO.keep hk hb r
    | true =>
      obtain ⟨us, ho, hz, hf, hr⟩ := r
      refine ⟨us, ho, hz, hf, fun i x j y a b => ?_⟩
      obtain ⟨u, h1, h2⟩ := hr i x j y a b
      exact ⟨u, h1, h2.keep hk hb⟩
  | lent => trivial
  | lentR => trivial
  | box cs =>
    obtain ⟨a, rfl, hs, hj⟩ := r
    refine ⟨a, rfl, hs, fun j x hx => ?_⟩
    obtain ⟨h1, u, h2, h3, h4, h5⟩ := hj j x hx
    exact ⟨h1, u, h2, h3, h4, h5.keep hk hb N⟩

/-- A new object under the name (d, q). -/
theorem Mv.new [Base] (H : HR X w h c) (F : Fr (fun _ _ => False) w w') (d q : Nat) (ob : Ob) (v : Value) (hc : ∀ g o, cellsOf ob v g o → w.heap.size ≤ g) (ho : ObNew (Bad X h c) w h c w' ob v) :
    Mv X (fun _ _ => False) w h c w' (h.new d q ob) (c.put d q v) := by
  have hN : Nm h c (h.new d q ob) (c.put d q v) := by
    refine ⟨fun s' k' => ?_, fun s' k' ob2 hb2 e1 e' => ?_, fun s' k' ob2 hb2 e1 e' => ?_⟩
    all_goals by_cases hn : s' = d ∧ k' = q
    · obtain ⟨rfl, rfl⟩ := hn; rw [Hp.new, Hp.put_same]; exact Nat.le_succ _
    · rw [Hp.new, Hp.put_ne _ _ hn]; exact Nat.le_refl _
    · obtain ⟨rfl, rfl⟩ := hn; rw [Hp.new, Hp.put_same] at e1; exact absurd e1 (Nat.succ_ne_self _)
    · rw [Hp.new, Hp.put_ne _ _ hn] at e'; exact ⟨Cz.put_ne _ _ hn, ob2, hb2, e', rfl⟩
    · obtain ⟨rfl, rfl⟩ := hn; rw [Hp.new, Hp.put_same] at e1; exact absurd e1 (Nat.succ_ne_self _)
    · rw [Hp.new, Hp.put_ne _ _ hn] at e'; exact ⟨Cz.put_ne _ _ hn, ob2, hb2, e'⟩
  refine Mv.make H F (fun _ _ _ x => x.elim) hN (fun s' k' => ¬ (s' = d ∧ k' = q)) ?_ ?_ ?_ ?_
  · intro s' k' ob' hn e'
    rw [Hp.new, Hp.put_ne _ _ hn] at e'
    exact ⟨e', Cz.put_ne _ _ hn, fun _ _ _ x => x⟩
  · intro s' k' ob' g o hn e' hcell hg
    obtain ⟨rfl, rfl⟩ := Classical.not_not.1 hn
    rw [Hp.new, Hp.put_same] at e'; injection e' with e'; subst e'
    rw [Cz.put_same] at hcell
    exact absurd (hc g o hcell) (by omega)
  · intro s1 k1 s2 k2 ob1 ob' g o h1 h2 _ _ hne
    obtain ⟨rfl, rfl⟩ := Classical.not_not.1 h1
    obtain ⟨rfl, rfl⟩ := Classical.not_not.1 h2
    exact absurd ⟨rfl, rfl⟩ hne
  · intro hbad s' k' ob' hn e'
    obtain ⟨rfl, rfl⟩ := Classical.not_not.1 hn
    rw [Hp.new, Hp.put_same] at e'; injection e' with e'; subst e'
    rw [Cz.put_same]
    exact ho.obr F (fun _ _ _ x => x.elim) hbad hN

/-- One object written, in its own cells. -/
theorem Mv.upd [Base] (H : HR X w h c) {s k : Nat} {ob ob' : Ob} (e : (h s k).2 = some ob) (F : Fr (cellsOf ob (c s k)) w w') (hc : ∀ g o, cellsOf ob' (c s k) g o → cellsOf ob (c s k) g o)
    (hl : match ob, ob' with | .row _ _ sz xs, .row _ _ sz' xs' => sz = sz' ∧ xs.length = xs'.length | .box _, .box _ => True | _, _ => False)
    (ho : ObNew (Bad X h c) w h c w' ob' (c s k)) : Mv X (cellsOf ob (c s k)) w h c w' (h.mod s k (some ob')) c := by
  have hN : Nm h c (h.mod s k (some ob')) c := by
    refine ⟨fun s' k' => by rw [Hp.mod_1]; exact Nat.le_refl _, fun s' k' ob2 hb2 _ e' => ?_, fun s' k' ob2 hb2 _ e' => ?_⟩
    all_goals by_cases hn : s' = s ∧ k' = k
    · obtain ⟨rfl, rfl⟩ := hn
      rw [Hp.mod_same] at e'; injection e' with e'; subst e'
      cases ob with
      | row o2 f2 sz2 xs2 =>
        cases ob' with
        | row o3 f3 sz3 xs3 => obtain ⟨rfl, hx⟩ := hl; exact ⟨rfl, _, rfl, e, by simp only [Ob.dim, hx]⟩
        | _ => exact hl.elim
      | box _ => cases ob' <;> first | exact hl.elim | cases hb2
      | lent => exact hl.elim
      | lentR => exact hl.elim
    · rw [Hp.mod_ne _ _ hn] at e'; exact ⟨rfl, ob2, hb2, e', rfl⟩
    · obtain ⟨rfl, rfl⟩ := hn
      rw [Hp.mod_same] at e'; injection e' with e'; subst e'
      cases ob with
      | row o2 f2 sz2 xs2 => cases ob' <;> first | exact hl.elim | cases hb2
      | box cs2 => exact ⟨rfl, _, rfl, e⟩
      | lent => exact ⟨rfl, _, rfl, e⟩
      | lentR => exact hl.elim
    · rw [Hp.mod_ne _ _ hn] at e'; exact ⟨rfl, ob2, hb2, e'⟩
  refine Mv.make H F (fun g o _ x => ⟨_, _, _, e, x⟩) hN (fun s' k' => ¬ (s' = s ∧ k' = k)) ?_ ?_ ?_ ?_
  · intro s' k' ob2 hn e'
    rw [Hp.mod_ne _ _ hn] at e'
    exact ⟨e', rfl, fun g o a b => H.sep _ _ _ _ _ _ g o e' e hn a b⟩
  · intro s' k' ob2 g o hn e' hcell hg
    obtain ⟨rfl, rfl⟩ := Classical.not_not.1 hn
    rw [Hp.mod_same] at e'; injection e' with e'; subst e'
    refine ⟨⟨_, _, _, e, hc g o hcell⟩, fun s2 k2 ob2 hn2 e2 => ?_⟩
    rw [Hp.mod_ne _ _ hn2] at e2
    exact H.sep _ _ _ _ _ _ g o e e2 (fun z => hn2 ⟨z.1.symm, z.2.symm⟩) (hc g o hcell)
  · intro s1 k1 s2 k2 ob1 ob2 g o h1 h2 _ _ hne
    obtain ⟨rfl, rfl⟩ := Classical.not_not.1 h1
    obtain ⟨rfl, rfl⟩ := Classical.not_not.1 h2
    exact absurd ⟨rfl, rfl⟩ hne
  · intro hbad s' k' ob2 hn e'
    obtain ⟨rfl, rfl⟩ := Classical.not_not.1 hn
    rw [Hp.mod_same] at e'; injection e' with e'; subst e'
    exact ho.obr F (fun g o hg x => .inr ⟨_, _, _, e, x⟩) hbad hN

/-- One object gone; a new one in its place, in its cells or in new ones. -/
theorem Mv.swap [Base] (H : HR X w h c) {s k : Nat} {ob : Ob} (e : (h s k).2 = some ob) (F : Fr (cellsOf ob (c s k)) w w') (d q : Nat) (ob' : Ob) (v : Value)
    (hc : ∀ g o, cellsOf ob' v g o → cellsOf ob (c s k) g o ∨ w.heap.size ≤ g) (ho : ObNew (Bad X h c) w h c w' ob' v) :
    Mv X (cellsOf ob (c s k)) w h c w' ((h.mod s k none).new d q ob') (c.put d q v) := by
  have hget : ∀ s' k' ob2, ¬ (s' = d ∧ k' = q) → (((h.mod s k none).new d q ob') s' k').2 = some ob2 → ¬ (s' = s ∧ k' = k) ∧ (h s' k').2 = some ob2 := by
    intro s' k' ob2 hn e'
    rw [Hp.new, Hp.put_ne _ _ hn] at e'
    by_cases hn2 : s' = s ∧ k' = k
    · obtain ⟨rfl, rfl⟩ := hn2; rw [Hp.mod_same] at e'; cases e'
    · rw [Hp.mod_ne _ _ hn2] at e'; exact ⟨hn2, e'⟩
  have hN : Nm h c ((h.mod s k none).new d q ob') (c.put d q v) := by
    refine ⟨fun s' k' => ?_, fun s' k' ob2 hb2 e1 e' => ?_, fun s' k' ob2 hb2 e1 e' => ?_⟩
    all_goals by_cases hn : s' = d ∧ k' = q
    · obtain ⟨rfl, rfl⟩ := hn; rw [Hp.new, Hp.put_same, Hp.mod_1]; exact Nat.le_succ _
    · rw [Hp.new, Hp.put_ne _ _ hn, Hp.mod_1]; exact Nat.le_refl _
    · obtain ⟨rfl, rfl⟩ := hn; rw [Hp.new, Hp.put_same, Hp.mod_1] at e1; exact absurd e1 (Nat.succ_ne_self _)
    · exact ⟨Cz.put_ne _ _ hn, ob2, hb2, (hget _ _ _ hn e').2, rfl⟩
    · obtain ⟨rfl, rfl⟩ := hn; rw [Hp.new, Hp.put_same, Hp.mod_1] at e1; exact absurd e1 (Nat.succ_ne_self _)
    · exact ⟨Cz.put_ne _ _ hn, ob2, hb2, (hget _ _ _ hn e').2⟩
  refine Mv.make H F (fun g o _ x => ⟨_, _, _, e, x⟩) hN (fun s' k' => ¬ (s' = d ∧ k' = q)) ?_ ?_ ?_ ?_
  · intro s' k' ob2 hn e'
    obtain ⟨hn2, e2⟩ := hget _ _ _ hn e'
    exact ⟨e2, Cz.put_ne _ _ hn, fun g o a b => H.sep _ _ _ _ _ _ g o e2 e hn2 a b⟩
  · intro s' k' ob2 g o hn e' hcell hg
    obtain ⟨rfl, rfl⟩ := Classical.not_not.1 hn
    rw [Hp.new, Hp.put_same] at e'; injection e' with e'; subst e'
    rw [Cz.put_same] at hcell
    rcases hc g o hcell with hold | hnew
    · refine ⟨⟨_, _, _, e, hold⟩, fun s2 k2 ob2 hn2 e2 => ?_⟩
      obtain ⟨hn3, e3⟩ := hget _ _ _ hn2 e2
      rw [Cz.put_ne _ _ hn2]
      exact H.sep _ _ _ _ _ _ g o e e3 (fun z => hn3 ⟨z.1.symm, z.2.symm⟩) hold
    · omega
  · intro s1 k1 s2 k2 ob1 ob2 g o h1 h2 _ _ hne
    obtain ⟨rfl, rfl⟩ := Classical.not_not.1 h1
    obtain ⟨rfl, rfl⟩ := Classical.not_not.1 h2
    exact absurd ⟨rfl, rfl⟩ hne
  · intro hbad s' k' ob2 hn e'
    obtain ⟨rfl, rfl⟩ := Classical.not_not.1 hn
    rw [Hp.new, Hp.put_same] at e'; injection e' with e'; subst e'
    rw [Cz.put_same]
    exact ho.obr F (fun g o hg x => .inr ⟨_, _, _, e, x⟩) hbad hN
end Go.Ev
