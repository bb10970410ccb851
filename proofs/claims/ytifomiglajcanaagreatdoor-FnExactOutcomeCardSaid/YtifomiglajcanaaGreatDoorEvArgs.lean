/- The evaluator: EvArgs. -/
import Derived.Test.YtifomiglajcanaaGreatDoorEvOut
set_option linter.unusedSimpArgs false
set_option linter.unusedVariables false
namespace Go.Ev
set_option linter.unusedVariables false
variable {P : Program} {tb : Tb} {md : Md} {call : CallF} {X X' M : Nat → Nat → Prop} {w w' : World} {h h' : Hp} {c c' : Cz} {B B' : Nat → Nat → Prop}

def boxA (n : Nat) (b q : Nat) : Atm := (.box (List.replicate n .u), .pointer (some ⟨b, q, none⟩))
theorem boxA_cells {n b q g o : Nat} : cellsOf (boxA n b q).1 (boxA n b q).2 g o ↔ b = g ∧ q ≤ o ∧ o < q + n := by simp [boxA, cellsOf]
def ptrsOf : List T → List Value → List Value
  | .ptr _ :: ts, u :: us => u :: ptrsOf ts us
  | .lend .. :: ts, u :: us => u :: ptrsOf ts us
  | _ :: ts, _ :: us => ptrsOf ts us
  | _, _ => []

/-- A box that is lent: where it lies, and what its other cells hold; a row that is lent. -/
def LentB (B : Nat → Nat → Prop) (w : World) (h : Hp) (c : Cz) (b : Lent) (pv : Value) (G : List Atm) : Prop :=
  ∃ g q, c b.s b.k = .pointer (some ⟨g, q, none⟩) ∧ pv = .pointer (some ⟨g, q + b.o, none⟩) ∧ G = [boxA b.o g q, boxA (b.cs.length - (b.o + b.n)) g (q + (b.o + b.n))] ∧ b.o + b.n ≤ b.cs.length ∧ (h b.s b.k).1 = b.g ∧
    ∀ (j : Nat) x, b.cs[j]? = some x → x.cellOk = true ∧ (¬ (b.o ≤ j ∧ j < b.o + b.n) → ∃ u, w.cell? ⟨g, q + j, none⟩ = some u ∧ w.frozen? ⟨g, q + j, none⟩ = false ∧ u.oneCell' = true ∧ RV B w h c x u)
def LentOk (B : Nat → Nat → Prop) (w : World) (h : Hp) (c : Cz) (b : Lent) (pv : Value) (G : List Atm) : Prop :=
  (b.row = false ∧ LentB B w h c b pv G) ∨ (b.row = true ∧ c b.s b.k = pv ∧ G = [] ∧ (h b.s b.k).1 = b.g)
inductive Lents (B : Nat → Nat → Prop) (w : World) (h : Hp) (c : Cz) : List Lent → List Value → List Atm → Prop
  | nil : Lents B w h c [] [] []
  | cons {b pv G bs pvs Gs} (h1 : LentOk B w h c b pv G) (h2 : Lents B w h c bs pvs Gs) : Lents B w h c (b :: bs) (pv :: pvs) (G ++ Gs)
theorem LentB.keep [Base] (hk : ∀ g o, g < w.heap.size → ¬ B g o → w'.cell? ⟨g, o, none⟩ = w.cell? ⟨g, o, none⟩) (hb : ∀ g o, g < w.heap.size → B' g o → B g o) (N : Nm h c h' c') {b : Lent} (hg : (h' b.s b.k).1 = (h b.s b.k).1) (hcc : c' b.s b.k = c b.s b.k)
    {pv : Value} {G : List Atm} (hG : ∀ g o, g < w.heap.size → cellsL G g o → w'.cell? ⟨g, o, none⟩ = w.cell? ⟨g, o, none⟩ ∧ w'.frozen? ⟨g, o, none⟩ = w.frozen? ⟨g, o, none⟩) (l : LentB B w h c b pv G) : LentB B' w' h' c' b pv G := by
  obtain ⟨g, q, h1, h2, h3, h4, h5, h6⟩ := l
  refine ⟨g, q, hcc.trans h1, h2, h3, h4, hg.trans h5, fun j x hx => ⟨(h6 j x hx).1, fun hn => ?_⟩⟩
  obtain ⟨u, k1, k2, k3, k4⟩ := (h6 j x hx).2 hn
  have hj := (List.getElem?_eq_some_iff.1 hx).1
  have hcell : cellsL G g (q + j) := by
    rw [h3]
    by_cases hlo : j < b.o
    · exact ⟨_, List.mem_cons_self .., boxA_cells.2 ⟨rfl, by omega, by omega⟩⟩
    · exact ⟨boxA (b.cs.length - (b.o + b.n)) g (q + (b.o + b.n)), by simp, boxA_cells.2 ⟨rfl, by omega, by omega⟩⟩
  obtain ⟨p1, p2⟩ := hG g (q + j) (cell_lt k1) hcell
  exact ⟨u, p1.trans k1, p2.trans k2, k3, k4.keep hk hb N⟩
theorem LentOk.keep [Base] (hk : ∀ g o, g < w.heap.size → ¬ B g o → w'.cell? ⟨g, o, none⟩ = w.cell? ⟨g, o, none⟩) (hb : ∀ g o, g < w.heap.size → B' g o → B g o) (N : Nm h c h' c') {b : Lent} (hg : (h' b.s b.k).1 = (h b.s b.k).1) (hcc : c' b.s b.k = c b.s b.k)
    {pv : Value} {G : List Atm} (hG : ∀ g o, g < w.heap.size → cellsL G g o → w'.cell? ⟨g, o, none⟩ = w.cell? ⟨g, o, none⟩ ∧ w'.frozen? ⟨g, o, none⟩ = w.frozen? ⟨g, o, none⟩) (l : LentOk B w h c b pv G) : LentOk B' w' h' c' b pv G :=
  l.imp (fun ⟨e, l⟩ => ⟨e, l.keep hk hb N hg hcc hG⟩) fun ⟨e, h1, h2, h3⟩ => ⟨e, hcc.trans h1, h2, hg.trans h3⟩
/-- Behind more that has moved out. -/
theorem Lents.moved [Base] {L : List Atm} (m : Moved X w h c h' L) {bs : List Lent} {pvs : List Value} {G : List Atm} (l : Lents (Bad X h c) w h c bs pvs G) : Lents (Bad (Or2 X (cellsL L)) h' c) w h' c bs pvs G := by
  induction l with
  | nil => exact .nil
  | cons h1 _ ih => exact .cons (h1.keep (fun _ _ _ _ => rfl) m.sh.bad m.sh.nm (m.sub _ _).1 rfl fun _ _ _ _ => ⟨rfl, rfl⟩) ih

theorem Moved.cells [Base] {L L' : List Atm} (m : Moved X w h c h' L) (he : ∀ g o, cellsL L' g o ↔ cellsL L g o) (hd : Disj L') : Moved X w h c h' L' := by
  have : Or2 X (cellsL L') = Or2 X (cellsL L) := by funext g o; exact propext (or_congr Iff.rfl (he g o))
  exact ⟨by rw [this]; exact m.sh, fun g o x => m.inm g o ((he g o).1 x), hd, m.sub⟩
theorem outCells_box [Base] : ∀ {vs : List V} {h h' : Hp} {ts : List T} {s k : Nat} {cs : List V}, outCells vs h = some (ts, h') → (h s k).2 = some (.box cs) → (h' s k).2 = some (.box cs)
  | [], h, h', ts, s, k, cs, e, hb => by simp [outCells] at e; obtain ⟨_, rfl⟩ := e; exact hb
  | v :: vs, h, h', ts, s, k, cs, e, hb => by
    simp only [outCells, Option.bind_eq_some_iff, Option.map_eq_some_iff, Prod.exists] at e
    obtain ⟨t, h1, e1, ts', h2, e2, e3⟩ := e
    simp at e3; obtain ⟨rfl, rfl⟩ := e3
    refine outCells_box e2 ?_
    cases v <;> simp only [outCell] at e1
    case d | nl => simp at e1; obtain ⟨_, rfl⟩ := e1; exact hb
    case own s' k' g =>
      cases hh : h.get s' k' g with
      | none => simp [hh] at e1
      | some ob =>
        cases ob with
        | box => simp [hh] at e1
        | lent => simp [hh] at e1
        | lentR => simp [hh] at e1
        | row o f sz xs =>
          cases o with
          | false => simp [hh] at e1; obtain ⟨_, rfl⟩ := e1; exact hb
          | true =>
            simp [hh] at e1; obtain ⟨_, rfl⟩ := e1
            rw [Hp.mod_ne]
            · exact hb
            · rintro ⟨rfl, rfl⟩; rw [(get_some hh).2] at hb; cases hb
    all_goals cases e1

theorem argT_ok [Base] (H : HR X w h c) {v : V} {u : Value} (r : RV (Bad X h c) w h c v u) {ty : Nat} {cons : Nat} {t : T} {a : List (Nat × Nat)} {b : List Lent} (e : argT tb ty cons h v = some (t, h', a, b)) :
    ∃ A G, Moved X w h c h' (A ++ G) ∧ Lents (Bad (Or2 X (cellsL (A ++ G))) h' c) w h' c b (ptrsOf [t] [u]) G ∧
      ∀ Bf h2, (∀ g o, g < w.heap.size → Bf g o → Bad (Or2 X (cellsL (A ++ G))) h' c g o) → Sub h' h2 → ShownOk Bf w h2 c a → TR Bf w t u A := by
  have r' := r.fix (elSz tb ty)
  unfold argT at e
  have plain : ∀ {v : V}, RV (Bad X h c) w h c v u → argR cons h v = some (t, h', a, b) →
      ∃ A G, Moved X w h c h' (A ++ G) ∧ Lents (Bad (Or2 X (cellsL (A ++ G))) h' c) w h' c b (ptrsOf [t] [u]) G ∧
      ∀ Bf h2, (∀ g o, g < w.heap.size → Bf g o → Bad (Or2 X (cellsL (A ++ G))) h' c g o) → Sub h' h2 → ShownOk Bf w h2 c a → TR Bf w t u A := by
    intro v rv e
    unfold argR at e
    split at e
    · simp only [Option.map_eq_some_iff, Prod.exists] at e
      obtain ⟨t1, a1, e1, e2⟩ := e
      simp at e2; obtain ⟨rfl, rfl, rfl, rfl⟩ := e2
      have hnp : ptrsOf [t1] [u] = [] := by
        cases rv <;> simp only [roCell] at e1
        case d | nl => simp at e1; obtain ⟨rfl, _⟩ := e1; rfl
        case own s k g _ _ _ =>
          cases hh : h.get s k g with
          | none => simp [hh] at e1
          | some ob => cases ob <;> simp [hh] at e1; obtain ⟨rfl, _⟩ := e1; rfl
        all_goals cases e1
      rw [hnp]
      refine ⟨[], [], Moved.zero H, .nil, fun Bf h2 hb hs ha => .c (roCell_ok H rv e1 hs ha ?_)⟩
      rw [List.append_nil, Or2_nil] at hb; exact hb
    · split at e
      · rename_i f sz xs h1 ho
        simp at e; obtain ⟨rfl, rfl, rfl, rfl⟩ := e
        obtain ⟨A, m, tc⟩ := outCell_ok H rv ho
        refine ⟨A, [], by rw [List.append_nil]; exact m, .nil, fun Bf h2 hb _ _ => .c (tc.keep (Fr.refl (fun _ _ => False) w) (fun _ _ _ x => x.elim) ?_ fun _ _ _ => _root_.id)⟩
        rw [List.append_nil] at hb; exact hb
      · cases e
    · split at e
      · rename_i s k g
        split at e
        · rename_i f sz xs hh
          simp at e; obtain ⟨rfl, rfl, rfl, rfl⟩ := e
          cases rv with
          | own hg hv h1 =>
            have hc := hv _ hh rfl
            have m := Moved.lend (aw := .lentR sz xs.length) H (get_some hh).2 rfl rfl (fun _ => rfl)
            have hrow := H.ok s k _ (get_some hh).2
            refine ⟨[(.row true f sz xs, c s k)], [], m, ?_, fun Bf h2 hb _ _ => .lend ?_⟩
            · have l1 : LentOk (Bad (Or2 X (cellsL ([(Ob.row true f sz xs, c s k)] ++ []))) (h.mod s k (some (.lentR sz xs.length))) c) w (h.mod s k (some (.lentR sz xs.length))) c ⟨true, s, k, g, 0, 0, []⟩ u [] :=
                .inr ⟨rfl, hc.symm, rfl, by show ((h.mod s k (some (.lentR sz xs.length))) s k).1 = g; rw [Hp.mod_same]; exact (get_some hh).1⟩
              exact Lents.cons l1 .nil
            · rw [hc]
              refine .own (OwnR.keep (Fr.refl (fun _ _ => False) w) (fun _ _ _ x => x.elim) (fun g o hg x => m.sh.bad g o hg (hb g o hg x)) (fun _ _ _ => _root_.id) hrow) (hc ▸ h1)
        · cases e
      · cases e
  cases hv : v.fix (elSz tb ty) with
  | agg cs =>
    rw [hv] at r' e
    simp only [Option.map_eq_some_iff, Prod.exists] at e
    obtain ⟨ts, a1, e1, e2⟩ := e
    simp at e2; obtain ⟨rfl, rfl, rfl, rfl⟩ := e2
    cases r' with
    | @agg _ us hl ho h1 hr =>
      refine ⟨[], [], Moved.zero H, .nil, fun Bf h2 hb hs ha => ?_⟩
      rw [List.append_nil, Or2_nil] at hb
      have := roCells_ok H hs hb (us := us.toList) (fun j x u p q => hr j x u p (by simpa using q)) (by simpa using hl) e1 ha
      exact .agg this
  | ptr s k g o =>
    rw [hv] at r' e
    simp only at e
    cases hh : h.get s k g with
    | none => simp [hh] at e
    | some ob =>
      cases ob with
      | row => simp [hh] at e
      | lent => simp [hh] at e
      | lentR => simp [hh] at e
      | box cs =>
        simp only [hh] at e
        split at e
        · rename_i cs' el _ hcs hty
          injection hcs with hcs; injection hcs with hcs; subst hcs
          split at e
          case isFalse => cases e
          rename_i hfit
          generalize hn : szOf tb el = n at *
          simp only [Option.map_eq_some_iff, Prod.exists] at e
          obtain ⟨ts, h1, e1, e2⟩ := e
          simp at e2; obtain ⟨rfl, rfl, rfl, rfl⟩ := e2
          cases r' with
          | ptr hg hv' =>
            obtain ⟨ad, c1, c2, rfl⟩ := hv' _ hh rfl
            obtain ⟨b, q, sp⟩ := ad
            simp at c2; subst c2
            have hbox := H.ok s k _ (get_some hh).2
            obtain ⟨ad', c1', _, hj⟩ := hbox
            rw [c1] at c1'; injection c1' with c1'; injection c1' with c1'; subst c1'
            simp only at hj
            have hat : At (Bad X h c) w h c b (q + o) ((cs.drop o).take n) := fun j x hx => by
              obtain ⟨p, u, p1, _, p3, p4⟩ := hj (o + j) x (getElem?_part hx).1
              exact ⟨p, u, by rw [Nat.add_assoc]; exact p1, p3, p4⟩
            obtain ⟨us, hul, huc, hur⟩ := At.values hat
            obtain ⟨A1, m1, tcs, htl⟩ := outCells_ok H hur hul.symm e1
            have hb1 := outCells_box e1 (get_some hh).2
            have m2 := Moved.lend (aw := .lent) m1.sh.hr hb1 rfl rfl (fun e => by cases e)
            have m12 := m1.trans m2
            have hlen : ((cs.drop o).take n).length = n := by simp; omega
            have htn : ts.length = n := by rw [htl, hlen]
            rw [c1] at m12
            -- the box in three
            have hd := m12.disj
            have hd1 := hd.app
            have hcells : ∀ g' o', cellsOf (.box cs) (.pointer (some ⟨b, q, none⟩)) g' o' ↔ (b = g' ∧ q + o ≤ o' ∧ o' < q + o + n) ∨ (b = g' ∧ q ≤ o' ∧ o' < q + o) ∨ (b = g' ∧ q + (o + n) ≤ o' ∧ o' < q + (o + n) + (cs.length - (o + n))) := by
              intro g' o'; simp only [cellsOf]; omega
            have hA : ∀ g' o', cellsL A1 g' o' → ¬ cellsOf (.box cs) (.pointer (some ⟨b, q, none⟩)) g' o' := fun g' o' x y => hd1.2.2 g' o' x (cellsL_one.2 y)
            have hiff : ∀ g' o', cellsL (boxA n b (q + o) :: A1 ++ [boxA o b q, boxA (cs.length - (o + n)) b (q + (o + n))]) g' o' ↔ cellsL (A1 ++ [(Ob.box cs, Value.pointer (some ⟨b, q, none⟩))]) g' o' := by
              intro g' o'
              simp only [cellsL_append, cellsL_one, List.cons_append]
              rw [hcells]
              simp only [cellsL, List.mem_cons, List.mem_append, List.not_mem_nil, or_false]
              constructor
              · rintro ⟨p, rfl | h1 | rfl | rfl, hp⟩
                · exact .inr (.inl (boxA_cells.1 hp))
                · exact .inl ⟨p, h1, hp⟩
                · exact .inr (.inr (.inl (boxA_cells.1 hp)))
                · exact .inr (.inr (.inr (boxA_cells.1 hp)))
              · rintro (⟨p, h1, hp⟩ | h1 | h1 | h1)
                · exact ⟨p, .inr (.inl h1), hp⟩
                · exact ⟨_, .inl rfl, boxA_cells.2 h1⟩
                · exact ⟨_, .inr (.inr (.inl rfl)), boxA_cells.2 h1⟩
                · exact ⟨_, .inr (.inr (.inr rfl)), boxA_cells.2 h1⟩
            have inBox : ∀ g' o', (b = g' ∧ q ≤ o' ∧ o' < q + cs.length) → cellsOf (.box cs) (.pointer (some ⟨b, q, none⟩)) g' o' := fun g' o' x => x
            have m3 := m12.cells hiff (List.pairwise_cons.2 ⟨fun p hp g' o' x y => by
                have x := boxA_cells.1 x
                rcases List.mem_append.1 hp with hp | hp
                · exact hA g' o' ⟨p, hp, y⟩ (inBox g' o' (by omega))
                · simp only [List.mem_cons, List.not_mem_nil, or_false] at hp
                  rcases hp with rfl | rfl <;> (have y := boxA_cells.1 y; omega), Disj.mk hd1.1 (List.pairwise_cons.2 ⟨fun p hp g' o' x y => by
                obtain rfl := List.mem_singleton.1 hp
                have x := boxA_cells.1 x; have y := boxA_cells.1 y; omega, List.pairwise_singleton _ _⟩) fun g' o' x y => by
                refine hA g' o' x (inBox g' o' ?_)
                obtain ⟨p, hp, y⟩ := y
                simp only [List.mem_cons, List.not_mem_nil, or_false] at hp
                rcases hp with rfl | rfl <;> (have y := boxA_cells.1 y; omega)⟩)
            have heq : Or2 X (cellsL (boxA n b (q + o) :: A1 ++ [boxA o b q, boxA (cs.length - (o + n)) b (q + (o + n))])) = Or2 (Or2 X (cellsL A1)) (cellsL [(Ob.box cs, c s k)]) := by
              rw [Or2_app, c1]; funext g' o'; exact propext (or_congr Iff.rfl (hiff g' o'))
            refine ⟨boxA n b (q + o) :: A1, [boxA o b q, boxA (cs.length - (o + n)) b (q + (o + n))], m3, ?_, fun Bf h2 hb hs ha => ?_⟩
            · have l1 : LentOk (Bad (Or2 X (cellsL (boxA n b (q + o) :: A1 ++ [boxA o b q, boxA (cs.length - (o + n)) b (q + (o + n))]))) (h1.mod s k (some .lent)) c) w (h1.mod s k (some .lent)) c ⟨false, s, k, g, o, n, cs⟩ (.pointer (some ⟨b, q + o, none⟩)) [boxA o b q, boxA (cs.length - (o + n)) b (q + (o + n))] := by
                refine .inl ⟨rfl, b, q, c1, rfl, rfl, hfit, ?_, fun j x hx => ?_⟩
                · show ((h1.mod s k (some .lent)) s k).1 = g
                  rw [Hp.mod_same]; exact ((m1.sub s k).1).trans (get_some hh).1
                · obtain ⟨p, u, p1, p2, p3, p4⟩ := hj j x hx
                  exact ⟨p, fun _ => ⟨u, p1, p2, p3, m3.sh.rv p4⟩⟩
              have h5 := Lents.cons l1 .nil
              rw [List.append_nil] at h5
              exact h5
            · have hb2 : ∀ g' o', g' < w.heap.size → Bf g' o' → Bad (Or2 X (cellsL A1)) h1 c g' o' := fun g' o' hg x => by
                have := hb g' o' hg x
                rw [heq] at this
                exact m2.sh.bad g' o' hg this
              have hT := TR.ptr (a := ⟨b, q + o, none⟩) (tcs.less hb2) rfl (fun j u hu => by
                have hjl : j < n := by have := (List.getElem?_eq_some_iff.1 hu).1; omega
                obtain ⟨x, hx⟩ : ∃ x, cs[o + j]? = some x := ⟨_, List.getElem?_eq_getElem (by omega)⟩
                obtain ⟨_, u', p1, p2, _⟩ := hj (o + j) x hx
                obtain ⟨q1, _⟩ := huc j u hu
                rw [← Nat.add_assoc] at p1 p2
                exact ⟨q1, p2⟩)
              rw [htn] at hT
              exact hT
        · cases e
  | d x => rw [hv] at r' e; exact plain r' e
  | nl sz => rw [hv] at r' e; exact plain r' e
  | own s k g => rw [hv] at r' e; exact plain r' e
  | ept s k g i o => rw [hv] at r' e; exact plain r' e
  | rpt f sz xs i o => rw [hv] at r' e; exact plain r' e
  | tup vs => rw [hv] at r' e; exact plain r' e
  | u => rw [hv] at r' e; exact plain r' e

theorem ptrsOf_cons (t : T) (ts : List T) (u : Value) (us : List Value) : ptrsOf (t :: ts) (u :: us) = ptrsOf [t] [u] ++ ptrsOf ts us := by cases t <;> rfl
theorem Lents.append {bs bs' : List Lent} {pvs pvs' : List Value} {G G' : List Atm} (a : Lents B w h c bs pvs G) (b : Lents B w h c bs' pvs' G') : Lents B w h c (bs ++ bs') (pvs ++ pvs') (G ++ G') := by
  induction a with
  | nil => exact b
  | cons h1 _ ih => rw [List.append_assoc]; exact .cons h1 ih
theorem Disj.perm {L L' : List Atm} (hp : L.Perm L') (h : Disj L) : Disj L' :=
  (hp.pairwise_iff (fun {x y} hxy g o a b => hxy g o b a)).1 h
theorem cellsL_perm {L L' : List Atm} (hp : L.Perm L') {g o : Nat} : cellsL L' g o ↔ cellsL L g o :=
  ⟨fun ⟨p, hm, e⟩ => ⟨p, hp.mem_iff.2 hm, e⟩, fun ⟨p, hm, e⟩ => ⟨p, hp.mem_iff.1 hm, e⟩⟩

theorem argTs_ok [Base] {cons : List Nat} : ∀ {vs : List V} {us : List Value} {X : Nat → Nat → Prop} {h h' : Hp} {i : Nat} {tys : List Nat} {ts : List T} {a : List (Nat × Nat)} {b : List Lent}, HR X w h c → (∀ (j : Nat) x u, vs[j]? = some x → us[j]? = some u → RV (Bad X h c) w h c x u) → vs.length = us.length →
    argTs tb cons i tys vs h = some (ts, h', a, b) →
    ∃ A G, Moved X w h c h' (A ++ G) ∧ Lents (Bad (Or2 X (cellsL (A ++ G))) h' c) w h' c b (ptrsOf ts us) G ∧
      ∀ Bf h2, (∀ g o, g < w.heap.size → Bf g o → Bad (Or2 X (cellsL (A ++ G))) h' c g o) → Sub h' h2 → ShownOk Bf w h2 c a → TRs Bf w ts us A
  | [], us, X, h, h', i, tys, ts, a, b, H, hr, hl, e => by
    simp [argTs] at e; obtain ⟨rfl, rfl, rfl, rfl⟩ := e
    obtain rfl : us = [] := List.eq_nil_of_length_eq_zero (by simpa using hl.symm)
    exact ⟨[], [], Moved.zero H, .nil, fun _ _ _ _ _ => .nil⟩
  | v :: vs, us, X, h, h', i, [], ts, a, b, H, hr, hl, e => by simp [argTs] at e
  | v :: vs, [], X, h, h', i, ty :: tys, ts, a, b, H, hr, hl, e => by simp at hl
  | v :: vs, u :: us, X, h, h', i, ty :: tys, ts, a, b, H, hr, hl, e => by
    simp only [argTs, Option.bind_eq_some_iff, Option.map_eq_some_iff, Prod.exists] at e
    obtain ⟨t, h1, a1, b1, e1, ts', h2, a2, b2, e2, e3⟩ := e
    simp at e3; obtain ⟨rfl, rfl, rfl, rfl⟩ := e3
    obtain ⟨A1, G1, m1, l1, k1⟩ := argT_ok H (hr 0 v u rfl rfl) e1
    obtain ⟨A2, G2, m2, l2, k2⟩ := argTs_ok m1.sh.hr (fun j x y p q => m1.sh.rv (hr (j + 1) x y (by simpa using p) (by simpa using q))) (by simpa using hl) e2
    have m := m1.trans m2
    have hp : ((A1 ++ G1) ++ (A2 ++ G2)).Perm ((A1 ++ A2) ++ (G1 ++ G2)) := by
      rw [List.append_assoc, List.append_assoc]
      refine List.Perm.append_left A1 ?_
      rw [← List.append_assoc, ← List.append_assoc]
      exact List.Perm.append_right G2 List.perm_append_comm
    have m' := m.cells (fun g o => cellsL_perm hp) (m.disj.perm hp)
    have heq : Or2 X (cellsL ((A1 ++ A2) ++ (G1 ++ G2))) = Or2 (Or2 X (cellsL (A1 ++ G1))) (cellsL (A2 ++ G2)) := by
      rw [Or2_app]; funext g o; exact propext (or_congr Iff.rfl (cellsL_perm hp))
    refine ⟨A1 ++ A2, G1 ++ G2, m', ?_, fun Bf h3 hb hs ha => ?_⟩
    · rw [ptrsOf_cons, heq]
      exact (l1.moved m2).append l2
    · rw [heq] at hb
      refine .cons (k1 Bf h3 (fun g o hg x => m2.sh.bad g o hg (hb g o hg x)) (m2.sub.trans hs) fun p hp => ha p (List.mem_append_left _ hp)) (k2 Bf h3 hb hs fun p hp => ha p (List.mem_append_right _ hp))
end Go.Ev
