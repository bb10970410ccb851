/- The evaluator: EvOps. -/
import Derived.Test.YtifomiglajcanaaGreatDoorEvStore
set_option linter.unusedSimpArgs false
set_option linter.unusedVariables false
namespace Go.Ev
set_option linter.unusedVariables false
variable {P : Program} {tb : Tb} {X M : Nat → Nat → Prop} {w w' : World} {h h' : Hp} {c c' : Cz} {B : Nat → Nat → Prop}

/-- An operation's run: a value, or nothing; and the step that it was. -/
def Ok1 [Base] (P : Program) (X : Nat → Nat → Prop) (w : World) (h : Hp) (c : Cz) (s : Sem Next) (v : V) (h' : Hp) : Prop :=
  ∃ u w' c', (s.run P w = .ok (.value u) w' ∨ (s.run P w = .ok .skip w' ∧ v = .u)) ∧ Mv X (Mut h c) w h c w' h' c' ∧ RV (Bad X h' c') w' h' c' v u
theorem Mv.id [Base] (H : HR X w h c) : Mv X (Mut h c) w h c w h c := (Mv.refl H (fun _ _ => False) fun _ _ => _root_.id).all
theorem Ok1.pure [Base] (H : HR X w h c) {s : Sem Next} {v : V} {u : Value} (hs : s.run P w = .ok (.value u) w) (r : RV (Bad X h c) w h c v u) : Ok1 P X w h c s v h :=
  ⟨u, w, c, .inl hs, Mv.id H, r⟩

theorem pureRun_ok {α : Type} (P : Program) : ∀ (s : Sem α) {a : α}, pureRun P s = some a → ∀ w, s.run P w = .ok a w
  | .pure a, _, e, w => by simp [pureRun] at e; subst e; rfl
  | .program k, _, e, w => by simp only [pureRun] at e; simp only [Sem.run]; exact pureRun_ok P (k P) e w
  | .load .., _, e, _ | .store .., _, e, _ | .new .., _, e, _ | .shape .., _, e, _ | .freeze .., _, e, _ | .frozen .., _, e, _ | .getObj .., _, e, _ | .setObj .., _, e, _
  | .choose .., _, e, _ | .sys .., _, e, _ | .mark .., _, e, _ | .halt _, _, e, _ => by simp [pureRun] at e
theorem of_ok {u : Value} {v : V} (e : V.of u = some v) : RV B w h c v u := by
  have plain : ∀ {u : Value}, u.oneCell' = true → some (V.d (.p u)) = some v → RV B w h c v u := fun h1 e => by injection e with e; subst e; exact .d (.p _ h1)
  cases u with
  | agg cs =>
    simp only [V.of] at e
    split at e
    · rename_i ha
      injection e with e; subst e
      rw [List.all_eq_true] at ha
      refine .agg (by simp) (fun x hx => ?_) (fun j u hu => ha u (List.mem_of_getElem? (by simpa using hu))) (fun j x u hx hu => ?_)
      · simp at hx; obtain ⟨y, _, rfl⟩ := hx; rfl
      · rw [List.getElem?_map] at hx
        have hu' : cs.toList[j]? = some u := by simpa using hu
        rw [hu'] at hx; injection hx with hx; subst hx
        exact .d (.p _ (ha u (List.mem_of_getElem? hu')))
    · cases e
  | tuple vs => simp [V.of, Value.oneCell'] at e
  | _ => exact plain rfl (by simpa [V.of, Value.oneCell'] using e)
theorem sc_ok [Base] {s : Sem Value} {v : V} (e : sc P s = some v) (w : World) : ∃ u, s.run P w = .ok u w ∧ ∀ B h c, RV B w h c v u := by
  obtain ⟨u, h1, h2⟩ := Option.bind_eq_some_iff.1 e
  exact ⟨u, pureRun_ok P s h1 w, fun B h c => of_ok h2⟩
theorem val1_ok {x : V} {u a : Value} (r : RV B w h c x u) (e : x.val1 = some a) : u = a := by
  cases r with
  | d hx =>
    cases hx with
    | p v h1 => simpa [V.val1] using e
    | l => simp [V.val1] at e
  | nl | agg | own | ptr | ept | rpt | tup | u => simp [V.val1] at e
theorem mapM_val1 [Base] : ∀ {cs : List V} {l us : List Value}, cs.mapM V.val1 = some l → cs.length = us.length → (∀ (j : Nat) x u, cs[j]? = some x → us[j]? = some u → RV B w h c x u) → us = l
  | [], l, us, e, hl, _ => by simp at e; subst e; exact (List.eq_nil_of_length_eq_zero hl.symm)
  | x :: cs, l, [], e, hl, _ => by simp at hl
  | x :: cs, l, u :: us, e, hl, hr => by
    simp only [List.mapM_cons, Option.bind_eq_bind, Option.bind_eq_some_iff, Option.pure_def] at e
    obtain ⟨a, e1, l', e2, e3⟩ := e
    injection e3 with e3; subst e3
    have h2 := mapM_val1 (us := us) e2 (by simpa using hl) fun j y z a b => hr (j + 1) y z (by simpa using a) (by simpa using b)
    rw [val1_ok (hr 0 x u rfl rfl) e1, h2]
theorem val_ok [Base] {x : V} {u a : Value} (r : RV B w h c x u) (e : x.val = some a) : u = a := by
  cases r with
  | d hx =>
    cases hx with
    | p v h1 => simpa [V.val] using e
    | l => simp [V.val] at e
  | @agg cs us hl ho h1 hr =>
    simp only [V.val, Option.map_eq_some_iff] at e
    obtain ⟨l, e1, rfl⟩ := e
    have := mapM_val1 (us := us.toList) e1 (by simpa using hl) fun j x u a b => hr j x u a (by simpa using b)
    rw [← this]
  | nl | own | ptr | ept | rpt | tup | u => simp [V.val] at e

/-! ### New rows and boxes -/
theorem new_get [Base] (h : Hp) (d q : Nat) (ob : Ob) : (h.new d q ob).get d q ((h d q).1 + 1) = some ob := by simp [Hp.get_def, Hp.new, Hp.put_same]
theorem new_own [Base] {v : Value} {d q : Nat} {ob : Ob} (h1 : v.oneCell' = true) : RV B w (h.new d q ob) (c.put d q v) (.own d q ((h d q).1 + 1)) v :=
  .own (by rw [Hp.new, Hp.put_same]; exact Nat.le_refl _) (fun _ _ _ => (Cz.put_same ..).symm) h1
theorem new_ptr [Base] {b o d q : Nat} {ob : Ob} : RV B w (h.new d q ob) (c.put d q (.pointer (some ⟨b, o, none⟩))) (.ptr d q ((h d q).1 + 1) 0) (.pointer (some ⟨b, o, none⟩)) :=
  .ptr (by rw [Hp.new, Hp.put_same]; exact Nat.le_refl _) (fun _ _ _ => ⟨_, Cz.put_same .., rfl, rfl⟩)
theorem Fr.alloc (M : Nat → Nat → Prop) (w : World) (o : Obj) : Fr M w (w.alloc o) :=
  ⟨rfl, rfl, rfl, by simp only [World.alloc, Array.size_push]; omega, fun g hg _ => heap_alloc_old w o g hg, fun g q hg _ => ⟨World.cell?_of_block (heap_alloc_old w o g hg), World.frozen?_of_block (heap_alloc_old w o g hg)⟩⟩
theorem OwnRow.nil (w : World) (sz : Nat) : OwnRow w (.slice none 0 0) sz 0 [] := ⟨by simp, .inl ⟨rfl, rfl⟩⟩

theorem cell_of_heap {w : World} {g o : Nat} {cur : Array Value} {e : TypeId} {u : Value} (hg : w.heap[g]? = some (.cells cur e (0, 0))) (hu : cur[o]? = some u) :
    w.cell? ⟨g, o, none⟩ = some u ∧ w.frozen? ⟨g, o, none⟩ = false := ⟨by simp only [World.cell?, hg]; simpa using hu, by simp only [World.frozen?, hg]; simp⟩
/-- nil, as a row of one's own. -/
theorem nil_new [Base] (H : HR X w h c) (d q sz : Nat) (f : Bool) : Mv X (Mut h c) w h c w (h.new d q (.row true f sz [])) (c.put d q (.slice none 0 0)) :=
  (Mv.new H (Fr.refl _ _) d q (.row true f sz []) (.slice none 0 0) (fun _ _ x => x.elim) ⟨[], OwnRow.nil w sz, by simp, by simp, by simp⟩).all
/-- A box. -/
theorem box_new [Base] (H : HR X w h c) (d q : Nat) (e : TypeId) {cs : List V} {us : Array Value} (hl : cs.length = us.size) (ho : ∀ x ∈ cs, x.cellOk = true)
    (hr : ∀ (j : Nat) x u, cs[j]? = some x → us[j]? = some u → u.oneCell' = true ∧ RV (Bad X h c) w h c x u) :
    Mv X (Mut h c) w h c (w.alloc (.cells us e)) (h.new d q (.box cs)) (c.put d q (.pointer (some ⟨w.heap.size, 0, none⟩))) := by
  refine (Mv.new H (Fr.alloc _ w _) d q (.box cs) (.pointer (some ⟨w.heap.size, 0, none⟩)) (fun g o x => ?_) ⟨_, rfl, rfl, fun j x hx => ⟨ho x (List.mem_of_getElem? hx), ?_⟩⟩).all
  · obtain ⟨e1, _⟩ := x; exact Nat.le_of_eq e1
  · have hj : j < us.size := by have := (List.getElem?_eq_some_iff.1 hx).1; omega
    obtain ⟨h1, h2⟩ := hr j x us[j] hx (Array.getElem?_eq_getElem hj)
    have hh := heap_alloc_new w (.cells us e)
    obtain ⟨k1, k2⟩ := cell_of_heap (o := 0 + j) hh (u := us[j]) (by rw [Nat.zero_add]; exact Array.getElem?_eq_getElem hj)
    exact ⟨us[j], k1, k2, h1, h2⟩
/-- A row. -/
theorem row_new [Base] (H : HR X w h c) (d q : Nat) (e : TypeId) {f : Bool} {sz : Nat} {xs : List (List D)} {cur : Array Value} (cap : Nat) (hn : xs.length ≤ cap) (hm : cap ≤ maxLen) (hs : cur.size = cap * sz) (hz : ∀ x ∈ xs, x.length = sz)
    (hf : f = true → ∀ x ∈ xs, x.all D.isP = true) (hr : ∀ (i : Nat) x (j : Nat) y, xs[i]? = some x → x[j]? = some y → ∃ u, cur[i * sz + j]? = some u ∧ RO (Bad X h c) w y u) {w1 : World} (hF : Fr (fun _ _ => False) w w1) (hsz : w1.heap.size = w.heap.size) :
    Mv X (Mut h c) w h c (w1.alloc (.cells cur e)) (h.new d q (.row true f sz xs)) (c.put d q (.slice (some ⟨w.heap.size, 0, none⟩) xs.length cap)) := by
  refine (Mv.new H (hF.trans (Fr.alloc (fun _ _ => False) w1 _) (fun _ _ _ => _root_.id) (fun _ _ _ => _root_.id)) d q (.row true f sz xs) (.slice (some ⟨w.heap.size, 0, none⟩) xs.length cap) (fun g o x => Nat.le_of_eq x) ⟨cur.toList.take (xs.length * sz), ⟨?_, .inr ⟨w.heap.size, cap, cur, e, rfl, ?_, hn, hm, hs, rfl⟩⟩, hz, hf, fun i x j y a b => ?_⟩).all
  · have := Nat.mul_le_mul_right sz hn
    simp; omega
  · rw [← hsz]; exact heap_alloc_new w1 _
  · obtain ⟨u, h1, h2⟩ := hr i x j y a b
    refine ⟨u, ?_, h2⟩
    have hi := (List.getElem?_eq_some_iff.1 a).1
    have hj : j < sz := by rw [← hz x (List.mem_of_getElem? a)]; exact (List.getElem?_eq_some_iff.1 b).1
    rw [List.getElem?_take, if_pos (idx_lt hi hj)]
    simpa using h1

/-! ### What a slice holds -/
theorem rowOf_ok [Base] (H : HR X w h c) {x : V} {u : Value} (r : RV (Bad X h c) w h c x u) {f : Bool} {sz : Nat} {xs : List (List D)} (e : rowOf h x = some (f, sz, xs)) :
    ∃ A p, u = .slice A xs.length p ∧ xs.length ≤ p ∧ (∀ y ∈ xs, y.length = sz) ∧ (f = true → ∀ y ∈ xs, y.all D.isP = true) ∧
      (xs ≠ [] → ∃ g o, A = some ⟨g, o, none⟩ ∧ ∀ (i : Nat) y (j : Nat) z, xs[i]? = some y → y[j]? = some z → ∃ v, w.cell? ⟨g, o + (i * sz + j), none⟩ = some v ∧ RO (Bad X h c) w z v) := by
  have ofRO : ∀ {u : Value}, RO (Bad X h c) w (.l f sz xs) u → ∃ A p, u = .slice A xs.length p ∧ xs.length ≤ p ∧ (∀ y ∈ xs, y.length = sz) ∧ (f = true → ∀ y ∈ xs, y.all D.isP = true) ∧
      (xs ≠ [] → ∃ g o, A = some ⟨g, o, none⟩ ∧ ∀ (i : Nat) y (j : Nat) z, xs[i]? = some y → y[j]? = some z → ∃ v, w.cell? ⟨g, o + (i * sz + j), none⟩ = some v ∧ RO (Bad X h c) w z v) := by
    intro u r
    cases r with
    | l f sz xs A cc uu hc hz hf ha hr =>
      refine ⟨A, cc, rfl, hc, hz, hf, fun hx => ?_⟩
      obtain ⟨g, o, e, hcell⟩ := ha hx
      refine ⟨g, o, e, fun i y j z hy hzz => ⟨_, (hcell i j (List.getElem?_eq_some_iff.1 hy).1 ?_).1, hr i y j z hy hzz⟩⟩
      rw [← hz y (List.mem_of_getElem? hy)]; exact (List.getElem?_eq_some_iff.1 hzz).1
  cases r with
  | @d x v hx =>
    cases x with
    | p v => simp [rowOf] at e
    | l f' sz' xs' => simp [rowOf] at e; obtain ⟨rfl, rfl, rfl⟩ := e; exact ofRO hx
  | nl => simp [rowOf] at e; obtain ⟨rfl, rfl, rfl⟩ := e; exact ⟨none, 0, rfl, by simp, by simp, by simp, fun hx => absurd rfl hx⟩
  | @own s k g _ hg hv h1 =>
    simp only [rowOf] at e
    cases hh : h.get s k g with
    | none => simp [hh] at e
    | some ob =>
      cases ob with
      | box => simp [hh] at e
      | lent => simp [hh] at e
      | lentR => simp [hh] at e
      | row o f' sz' xs' =>
        simp [hh] at e; obtain ⟨rfl, rfl, rfl⟩ := e
        rw [hv _ hh rfl]
        have hrow := H.ok s k _ (get_some hh).2
        cases o with
        | false => exact ofRO hrow
        | true =>
          obtain ⟨us, ho, hz, hf, hr⟩ := hrow
          rcases ho.2 with ⟨e1, e2⟩ | ⟨g', cap, cur, ty, e1, hg2, hnc, hcm, hcs, ht⟩
          · obtain rfl : xs' = [] := List.eq_nil_of_length_eq_zero e2
            exact ⟨none, 0, e1, by simp, by simp, by simp, fun hx => absurd rfl hx⟩
          · rw [e1] at ho ⊢
            refine ⟨_, _, rfl, hnc, hz, hf, fun _ => ⟨g', 0, rfl, fun i y j z hy hzz => ?_⟩⟩
            obtain ⟨u, hu, hro⟩ := hr i y j z hy hzz
            exact ⟨u, by rw [Nat.zero_add]; exact (ho.cell hu).1, hro⟩
  | agg | ptr | ept | rpt | tup | u => simp [rowOf] at e
end Go.Ev
