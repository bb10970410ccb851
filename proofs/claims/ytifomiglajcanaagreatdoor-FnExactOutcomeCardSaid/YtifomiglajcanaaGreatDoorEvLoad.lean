/- The evaluator: EvLoad. -/
import Derived.Test.YtifomiglajcanaaGreatDoorEvExec
set_option linter.unusedSimpArgs false
set_option linter.unusedVariables false
namespace Go.Ev
set_option linter.unusedVariables false
variable {P : Program} {tb : Tb} {md : Md} {call : CallF} {X X' M : Nat → Nat → Prop} {w w' : World} {h h' : Hp} {c c' : Cz} {B B' : Nat → Nat → Prop}

/-! ### What crosses a call: data, rows, boxes; the cells that it brings -/
abbrev Atm := Ob × Value
def cellsL (L : List Atm) (g o : Nat) : Prop := ∃ p ∈ L, cellsOf p.1 p.2 g o
def Disj (L : List Atm) : Prop := L.Pairwise fun p q => ∀ g o, cellsOf p.1 p.2 g o → ¬ cellsOf q.1 q.2 g o
def Or2 (X Y : Nat → Nat → Prop) (g o : Nat) : Prop := X g o ∨ Y g o
theorem cellsL_append {L L' : List Atm} {g o : Nat} : cellsL (L ++ L') g o ↔ cellsL L g o ∨ cellsL L' g o := by
  simp only [cellsL, List.mem_append]
  constructor
  · rintro ⟨p, h | h, e⟩; exact .inl ⟨p, h, e⟩; exact .inr ⟨p, h, e⟩
  · rintro (⟨p, h, e⟩ | ⟨p, h, e⟩); exact ⟨p, .inl h, e⟩; exact ⟨p, .inr h, e⟩
theorem Disj.app {L L' : List Atm} (h : Disj (L ++ L')) : Disj L ∧ Disj L' ∧ ∀ g o, cellsL L g o → ¬ cellsL L' g o := by
  obtain ⟨h1, h2, h3⟩ := List.pairwise_append.1 h
  exact ⟨h1, h2, fun g o ⟨p, hp, e⟩ ⟨q, hq, e'⟩ => h3 p hp q hq g o e e'⟩
theorem Disj.mk {L L' : List Atm} (h1 : Disj L) (h2 : Disj L') (h3 : ∀ g o, cellsL L g o → ¬ cellsL L' g o) : Disj (L ++ L') :=
  List.pairwise_append.2 ⟨h1, h2, fun p hp q hq g o e e' => h3 g o ⟨p, hp, e⟩ ⟨q, hq, e'⟩⟩

inductive TC (B : Nat → Nat → Prop) (w : World) : T → Value → List Atm → Prop
  | d {x v} (hx : RO B w x v) : TC B w (.d x) v []
  | own {f sz xs v} (ho : OwnR B w v f sz xs) (h1 : v.oneCell' = true) : TC B w (.own f sz xs) v [(.row true f sz xs, v)]
inductive TCs (B : Nat → Nat → Prop) (w : World) : List T → List Value → List Atm → Prop
  | nil : TCs B w [] [] []
  | cons {t u A ts us L} (h1 : TC B w t u A) (h2 : TCs B w ts us L) : TCs B w (t :: ts) (u :: us) (A ++ L)
inductive TR (B : Nat → Nat → Prop) (w : World) : T → Value → List Atm → Prop
  | c {t v A} (h : TC B w t v A) : TR B w t v A
  | lend {f sz xs v A} (h : TC B w (.own f sz xs) v A) : TR B w (.lend f sz xs) v A
  | agg {ts us L} (h : TCs B w ts us L) : TR B w (.agg ts) (.agg us.toArray) L
  | ptr {ts us L a} (h : TCs B w ts us L) (hs : a.spot = none) (hc : ∀ (j : Nat) u, us[j]? = some u → w.cell? ⟨a.block, a.off + j, none⟩ = some u ∧ w.frozen? ⟨a.block, a.off + j, none⟩ = false) :
      TR B w (.ptr ts) (.pointer (some a)) ((.box (List.replicate ts.length .u), .pointer (some a)) :: L)
inductive TRs (B : Nat → Nat → Prop) (w : World) : List T → List Value → List Atm → Prop
  | nil : TRs B w [] [] []
  | cons {t u A ts us L} (h1 : TR B w t u A) (h2 : TRs B w ts us L) : TRs B w (t :: ts) (u :: us) (A ++ L)

theorem TC.one [Base] {t : T} {u : Value} {A : List Atm} (h : TC B w t u A) : u.oneCell' = true := by
  cases h with
  | d hx => exact hx.one
  | own _ h1 => exact h1
theorem TCs.one [Base] {ts : List T} {us : List Value} {A : List Atm} (h : TCs B w ts us A) : ∀ u ∈ us, u.oneCell' = true := by
  induction h with
  | nil => simp
  | cons h1 _ ih => intro u hu; rcases List.mem_cons.1 hu with rfl | hu; exact h1.one; exact ih u hu
theorem TCs.length {ts : List T} {us : List Value} {A : List Atm} (h : TCs B w ts us A) : ts.length = us.length := by
  induction h with
  | nil => rfl
  | cons _ _ ih => simp [ih]

theorem OwnR.keep [Base] {v : Value} {f : Bool} {sz : Nat} {xs : List (List D)} (F : Fr M w w') (hM : ∀ g o, g < w.heap.size → M g o → B g o) (hb : ∀ g o, g < w.heap.size → B' g o → B g o) (hu : ∀ g o, cellsOf (.row true f sz xs) v g o → ¬ M g o)
    (r : OwnR B w v f sz xs) : OwnR B' w' v f sz xs :=
  ObR.keep (h := Hp.nil) (h' := Hp.nil) (c := fun _ _ => undef) (c' := fun _ _ => undef) F hM hb ⟨fun _ _ => Nat.le_refl _, fun s k ob _ _ e => by simp [Hp.nil] at e, fun s k ob _ _ e => by simp [Hp.nil] at e⟩ (ob := .row true f sz xs) hu r
theorem TC.keep [Base] (F : Fr M w w') (hM : ∀ g o, g < w.heap.size → M g o → B g o) (hb : ∀ g o, g < w.heap.size → B' g o → B g o) {t : T} {u : Value} {A : List Atm} (hu : ∀ g o, cellsL A g o → ¬ M g o) (h : TC B w t u A) : TC B' w' t u A := by
  cases h with
  | d hx => exact .d (hx.keep (fun g o hg hn => (F.cell g o hg fun hm => hn (hM g o hg hm)).1) hb)
  | own ho h1 => exact .own (ho.keep F hM hb fun g o x => hu g o ⟨_, List.mem_singleton.2 rfl, x⟩) h1
theorem TCs.keep [Base] (F : Fr M w w') (hM : ∀ g o, g < w.heap.size → M g o → B g o) (hb : ∀ g o, g < w.heap.size → B' g o → B g o) {ts : List T} {us : List Value} {A : List Atm} (hu : ∀ g o, cellsL A g o → ¬ M g o) (h : TCs B w ts us A) : TCs B' w' ts us A := by
  induction h with
  | nil => exact .nil
  | cons h1 _ ih => exact .cons (h1.keep F hM hb fun g o x => hu g o (cellsL_append.2 (.inl x))) (ih fun g o x => hu g o (cellsL_append.2 (.inr x)))
/-- The same world, fewer cells that may change. -/
theorem TCs.less [Base] (hb : ∀ g o, g < w.heap.size → B' g o → B g o) {ts : List T} {us : List Value} {A : List Atm} (h : TCs B w ts us A) : TCs B' w ts us A := h.keep (Fr.refl (fun _ _ => False) w) (fun _ _ _ x => x.elim) hb fun _ _ _ => _root_.id
theorem TR.less [Base] (hb : ∀ g o, g < w.heap.size → B' g o → B g o) {t : T} {u : Value} {A : List Atm} (h : TR B w t u A) : TR B' w t u A := by
  cases h with
  | c h => exact .c (h.keep (Fr.refl (fun _ _ => False) w) (fun _ _ _ x => x.elim) hb fun _ _ _ => _root_.id)
  | lend h => exact .lend (h.keep (Fr.refl (fun _ _ => False) w) (fun _ _ _ x => x.elim) hb fun _ _ _ => _root_.id)
  | agg h => exact .agg (h.less hb)
  | ptr h hs hc => exact .ptr (h.less hb) hs hc
theorem TRs.less [Base] (hb : ∀ g o, g < w.heap.size → B' g o → B g o) {ts : List T} {us : List Value} {A : List Atm} (h : TRs B w ts us A) : TRs B' w ts us A := by
  induction h with
  | nil => exact .nil
  | cons h1 _ ih => exact .cons (h1.less hb) ih

/-! ### An object into the heap, out of the heap: cells pass from the others' to one's own, and back -/
theorem Nm.new [Base] (h : Hp) (c : Cz) (d q : Nat) (ob : Ob) (v : Value) : Nm h c (h.new d q ob) (c.put d q v) := by
  refine ⟨fun s' k' => ?_, fun s' k' ob2 hb2 e1 e' => ?_, fun s' k' ob2 hb2 e1 e' => ?_⟩
  all_goals by_cases hn : s' = d ∧ k' = q
  · obtain ⟨rfl, rfl⟩ := hn; rw [Hp.new, Hp.put_same]; exact Nat.le_succ _
  · rw [Hp.new, Hp.put_ne _ _ hn]; exact Nat.le_refl _
  · obtain ⟨rfl, rfl⟩ := hn; rw [Hp.new, Hp.put_same] at e1; exact absurd e1 (Nat.succ_ne_self _)
  · rw [Hp.new, Hp.put_ne _ _ hn] at e'; exact ⟨Cz.put_ne _ _ hn, ob2, hb2, e', rfl⟩
  · obtain ⟨rfl, rfl⟩ := hn; rw [Hp.new, Hp.put_same] at e1; exact absurd e1 (Nat.succ_ne_self _)
  · rw [Hp.new, Hp.put_ne _ _ hn] at e'; exact ⟨Cz.put_ne _ _ hn, ob2, hb2, e'⟩

/-- A step that only moves cells between X and the heap. -/
structure Sh [Base] (X : Nat → Nat → Prop) (h : Hp) (c : Cz) (w : World) (X' : Nat → Nat → Prop) (h' : Hp) (c' : Cz) : Prop where
  hr : HR X' w h' c'
  bad : ∀ g o, g < w.heap.size → Bad X' h' c' g o → Bad X h c g o
  nm : Nm h c h' c'
theorem Sh.refl [Base] (H : HR X w h c) : Sh X h c w X h c := ⟨H, fun _ _ _ x => x, ⟨fun _ _ => Nat.le_refl _, fun s k ob hb _ e => ⟨rfl, ob, hb, e, rfl⟩, fun s k ob hb _ e => ⟨rfl, ob, hb, e⟩⟩⟩
theorem Sh.trans [Base] {X'' : Nat → Nat → Prop} {h'' : Hp} {c'' : Cz} (a : Sh X h c w X' h' c') (b : Sh X' h' c' w X'' h'' c'') : Sh X h c w X'' h'' c'' :=
  ⟨b.hr, fun g o hg x => a.bad g o hg (b.bad g o hg x), a.nm.trans b.nm⟩
theorem Sh.rv [Base] (a : Sh X h c w X' h' c') {x : V} {v : Value} (r : RV (Bad X h c) w h c x v) : RV (Bad X' h' c') w h' c' x v := r.keep (fun _ _ _ _ => rfl) a.bad a.nm

theorem HR.take [Base] (H : HR X w h c) (hX : ∀ g o, X' g o → X g o) (d q : Nat) {ob : Ob} {v : Value} (hc : ∀ g o, cellsOf ob v g o → X g o ∧ ¬ X' g o) (ho : ObNew (Bad X h c) w h c w ob v) :
    Sh X h c w X' (h.new d q ob) (c.put d q v) := by
  have N := Nm.new h c d q ob v
  have hmut : ∀ g o, Mut (h.new d q ob) (c.put d q v) g o → Mut h c g o ∨ cellsOf ob v g o := by
    rintro g o ⟨s, k, ob', e, hcell⟩
    by_cases hn : s = d ∧ k = q
    · obtain ⟨rfl, rfl⟩ := hn
      rw [Hp.new, Hp.put_same] at e; injection e with e; subst e
      rw [Cz.put_same] at hcell
      exact .inr hcell
    · rw [Hp.new, Hp.put_ne _ _ hn] at e
      rw [Cz.put_ne _ _ hn] at hcell
      exact .inl ⟨s, k, ob', e, hcell⟩
  have hbad : ∀ g o, g < w.heap.size → Bad X' (h.new d q ob) (c.put d q v) g o → Bad X h c g o := by
    rintro g o _ (hx | hm)
    · exact .inl (hX g o hx)
    · rcases hmut g o hm with hm | hm
      · exact .inr hm
      · exact .inl (hc g o hm).1
  refine ⟨⟨H.bs.sub hbad, ?_, ?_, ?_, fun g o hx => H.xl g o (hX g o hx)⟩, hbad, N⟩
  · intro s k ob' e
    by_cases hn : s = d ∧ k = q
    · obtain ⟨rfl, rfl⟩ := hn
      rw [Hp.new, Hp.put_same] at e; injection e with e; subst e
      rw [Cz.put_same]
      exact ho.obr (Fr.refl (fun _ _ => False) w) (fun _ _ _ x => x.elim) hbad N
    · rw [Hp.new, Hp.put_ne _ _ hn] at e
      rw [Cz.put_ne _ _ hn]
      exact (H.ok s k ob' e).keep (Fr.refl (fun _ _ => False) w) (fun _ _ _ x => x.elim) hbad N fun _ _ _ => _root_.id
  · intro s k s' k' ob1 ob2 g o e e' hne h1 h2
    by_cases hn : s = d ∧ k = q <;> by_cases hn' : s' = d ∧ k' = q
    · exact hne ⟨hn.1.trans hn'.1.symm, hn.2.trans hn'.2.symm⟩
    · obtain ⟨rfl, rfl⟩ := hn
      rw [Hp.new, Hp.put_same] at e; injection e with e; subst e
      rw [Cz.put_same] at h1
      rw [Hp.new, Hp.put_ne _ _ hn'] at e'
      rw [Cz.put_ne _ _ hn'] at h2
      exact H.nx g o ⟨_, _, _, e', h2⟩ (hc g o h1).1
    · obtain ⟨rfl, rfl⟩ := hn'
      rw [Hp.new, Hp.put_same] at e'; injection e' with e'; subst e'
      rw [Cz.put_same] at h2
      rw [Hp.new, Hp.put_ne _ _ hn] at e
      rw [Cz.put_ne _ _ hn] at h1
      exact H.nx g o ⟨_, _, _, e, h1⟩ (hc g o h2).1
    · rw [Hp.new, Hp.put_ne _ _ hn] at e
      rw [Hp.new, Hp.put_ne _ _ hn'] at e'
      rw [Cz.put_ne _ _ hn] at h1
      rw [Cz.put_ne _ _ hn'] at h2
      exact H.sep s k s' k' ob1 ob2 g o e e' hne h1 h2
  · intro g o hm hx
    rcases hmut g o hm with hm | hm
    · exact H.nx g o hm (hX g o hx)
    · exact (hc g o hm).2 hx

theorem HR.give [Base] (H : HR X w h c) {s k : Nat} {ob : Ob} (e : (h s k).2 = some ob) : Sh X h c w (Or2 X (cellsOf ob (c s k))) (h.mod s k none) c := by
  have m := Mv.kill H s k
  have hget : ∀ s' k' ob', ((h.mod s k none) s' k').2 = some ob' → ¬ (s' = s ∧ k' = k) ∧ (h s' k').2 = some ob' := by
    intro s' k' ob' e'
    by_cases hn : s' = s ∧ k' = k
    · obtain ⟨rfl, rfl⟩ := hn; rw [Hp.mod_same] at e'; cases e'
    · rw [Hp.mod_ne _ _ hn] at e'; exact ⟨hn, e'⟩
  have hbad : ∀ g o, g < w.heap.size → Bad (Or2 X (cellsOf ob (c s k))) (h.mod s k none) c g o → Bad X h c g o := by
    rintro g o hg ((hx | hx) | hm)
    · exact .inl hx
    · exact .inr ⟨s, k, ob, e, hx⟩
    · exact .inr (m.mut_ g o hg hm)
  refine ⟨⟨H.bs.sub hbad, fun s' k' ob' e' => ?_, fun s1 k1 s2 k2 ob1 ob2 g o e1 e2 hne => H.sep s1 k1 s2 k2 ob1 ob2 g o (hget _ _ _ e1).2 (hget _ _ _ e2).2 hne, fun g o hm hx => ?_, fun g o hx => ?_⟩, hbad, m.nm⟩
  · exact (H.ok s' k' ob' (hget _ _ _ e').2).keep (Fr.refl (fun _ _ => False) w) (fun _ _ _ x => x.elim) hbad m.nm fun _ _ _ => _root_.id
  · obtain ⟨s', k', ob', e', hcell⟩ := hm
    obtain ⟨hn, e'⟩ := hget _ _ _ e'
    rcases hx with hx | hx
    · exact H.nx g o ⟨s', k', ob', e', hcell⟩ hx
    · exact H.sep s' k' s k ob' ob g o e' e hn hcell hx
  · rcases hx with hx | hx
    · exact H.xl g o hx
    · exact cellsOf_lt (H.ok s k ob e) hx

/-! ### Loading -/
theorem ldCell_ok [Base] {L : List Atm} (H : HR (Or2 X (cellsL L)) w h c) {t : T} {u : Value} {A L' : List Atm} (hL : L = A ++ L') (hd : Disj L) (hx : ∀ g o, cellsL L g o → ¬ X g o) (r : TC (Bad (Or2 X (cellsL L)) h c) w t u A) {s k : Nat} {v : V} (e : ldCell s k t h = some (v, h')) :
    ∃ c', Sh (Or2 X (cellsL L)) h c w (Or2 X (cellsL L')) h' c' ∧ RV (Bad (Or2 X (cellsL L')) h' c') w h' c' v u ∧ v.cellOk = true := by
  subst hL
  cases r with
  | d hr => simp [ldCell] at e; obtain ⟨rfl, rfl⟩ := e; exact ⟨c, Sh.refl H, .d hr, rfl⟩
  | @own f sz xs _ ho h1 =>
    simp [ldCell] at e; obtain ⟨rfl, rfl⟩ := e
    obtain ⟨d1, d2, d3⟩ := hd.app
    have hcell : ∀ g o, cellsOf (.row true f sz xs) u g o → cellsL [(Ob.row true f sz xs, u)] g o := fun g o x => ⟨_, List.mem_singleton.2 rfl, x⟩
    have sh := HR.take (X' := Or2 X (cellsL L')) H (fun g o x => x.imp _root_.id fun y => cellsL_append.2 (.inr y)) s k (ob := .row true f sz xs) (v := u)
      (fun g o x => ⟨.inr (cellsL_append.2 (.inl (hcell g o x))), fun y => y.elim (hx g o (cellsL_append.2 (.inl (hcell g o x)))) (d3 g o (hcell g o x))⟩) ho
    exact ⟨_, sh, new_own h1, rfl⟩

theorem ldCells_ok [Base] : ∀ {ts : List T} {us : List Value} {A L L' : List Atm} {h h' : Hp} {c : Cz} {s k : Nat} {vs : List V}, HR (Or2 X (cellsL L)) w h c → L = A ++ L' → Disj L → (∀ g o, cellsL L g o → ¬ X g o) → TCs (Bad (Or2 X (cellsL L)) h c) w ts us A →
    ldCells s k ts h = some (vs, h') → ∃ c', Sh (Or2 X (cellsL L)) h c w (Or2 X (cellsL L')) h' c' ∧ vs.length = us.length ∧ (∀ x ∈ vs, x.cellOk = true) ∧ ∀ (j : Nat) x u, vs[j]? = some x → us[j]? = some u → RV (Bad (Or2 X (cellsL L')) h' c') w h' c' x u
  | [], us, A, L, L', h, h', c, s, k, vs, H, hL, hd, hx, r, e => by
    cases r
    simp [ldCells] at e; obtain ⟨rfl, rfl⟩ := e
    subst hL
    exact ⟨c, Sh.refl H, rfl, by simp, by simp⟩
  | t :: ts, us, A, L, L', h, h', c, s, k, vs, H, hL, hd, hx, r, e => by
    cases r with
    | @cons _ u A1 _ us A2 r1 r2 =>
      simp only [ldCells, Option.bind_eq_some_iff, Option.map_eq_some_iff, Prod.exists] at e
      obtain ⟨v, h1, e1, vs', h2, e2, e3⟩ := e
      simp at e3; obtain ⟨rfl, rfl⟩ := e3
      rw [List.append_assoc] at hL
      obtain ⟨c1, sh1, rv1, ok1⟩ := ldCell_ok H hL hd hx r1 e1
      subst hL
      obtain ⟨c2, sh2, hl, hok, rv2⟩ := ldCells_ok (L := A2 ++ L') sh1.hr rfl hd.app.2.1 (fun g o x => hx g o (cellsL_append.2 (.inr x))) (r2.less sh1.bad) e2
      refine ⟨c2, sh1.trans sh2, by simp [hl], fun x hx => ?_, fun j x y a b => ?_⟩
      · rcases List.mem_cons.1 hx with rfl | hx
        · exact ok1
        · exact hok x hx
      · cases j with
        | zero => simp at a b; subst a; subst b; exact sh2.rv rv1
        | succ j => exact rv2 j x y (by simpa using a) (by simpa using b)

theorem ldT_ok [Base] {L : List Atm} (H : HR (Or2 X (cellsL L)) w h c) {t : T} {u : Value} {A L' : List Atm} (hL : L = A ++ L') (hd : Disj L) (hx : ∀ g o, cellsL L g o → ¬ X g o) (r : TR (Bad (Or2 X (cellsL L)) h c) w t u A) {s k : Nat} {v : V} (e : ldT s k t h = some (v, h')) :
    ∃ c', Sh (Or2 X (cellsL L)) h c w (Or2 X (cellsL L')) h' c' ∧ RV (Bad (Or2 X (cellsL L')) h' c') w h' c' v u := by
  cases r with
  | c r =>
    have e' : ldCell s k t h = some (v, h') := by cases r <;> exact e
    obtain ⟨c', sh, rv, _⟩ := ldCell_ok H hL hd hx r e'
    exact ⟨c', sh, rv⟩
  | lend r =>
    obtain ⟨c', sh, rv, _⟩ := ldCell_ok H hL hd hx r e
    exact ⟨c', sh, rv⟩
  | @agg ts us _ r =>
    simp only [ldT, Option.map_eq_some_iff, Prod.exists] at e
    obtain ⟨vs, h1, e1, e2⟩ := e
    simp at e2; obtain ⟨rfl, rfl⟩ := e2
    obtain ⟨c', sh, hl, hok, rv⟩ := ldCells_ok H hL hd hx r e1
    exact ⟨c', sh, .agg (by simpa using hl) hok (fun j u hu => r.one u (List.mem_of_getElem? (by simpa using hu))) fun j x u a b => rv j x u a (by simpa using b)⟩
  | @ptr ts us A' a r hs hc =>
    simp only [ldT, Option.map_eq_some_iff, Prod.exists] at e
    obtain ⟨vs, h1, e1, e2⟩ := e
    simp at e2; obtain ⟨rfl, rfl⟩ := e2
    subst hL
    -- first the cells' rows, the box's own cells being kept among the others'
    have d0 : Disj (A' ++ ((Ob.box (List.replicate ts.length .u), Value.pointer (some a)) :: L')) := by
      have := hd
      simp only [List.cons_append] at this
      obtain ⟨p1, p2⟩ := List.pairwise_cons.1 this
      obtain ⟨q1, q2, q3⟩ := Disj.app p2
      refine Disj.mk q1 (List.pairwise_cons.2 ⟨fun q hq => p1 q (List.mem_append.2 (.inr hq)), q2⟩) fun g o x y => ?_
      obtain ⟨q, hq, y⟩ := y
      rcases List.mem_cons.1 hq with rfl | hq
      · obtain ⟨p, hp, x⟩ := x
        exact p1 p (List.mem_append.2 (.inl hp)) g o y x
      · exact q3 g o x ⟨q, hq, y⟩
    have hmem : ∀ g o, cellsL (A' ++ ((Ob.box (List.replicate ts.length .u), Value.pointer (some a)) :: L')) g o ↔ cellsL ((Ob.box (List.replicate ts.length .u), Value.pointer (some a)) :: A' ++ L') g o := by
      intro g o
      simp only [cellsL, List.mem_append, List.mem_cons, List.cons_append]
      constructor
      · rintro ⟨p, h1 | h1 | h1, e⟩
        · exact ⟨p, .inr (.inl h1), e⟩
        · exact ⟨p, .inl h1, e⟩
        · exact ⟨p, .inr (.inr h1), e⟩
      · rintro ⟨p, h1 | h1 | h1, e⟩
        · exact ⟨p, .inr (.inl h1), e⟩
        · exact ⟨p, .inl h1, e⟩
        · exact ⟨p, .inr (.inr h1), e⟩
    have heq : Or2 X (cellsL (A' ++ ((Ob.box (List.replicate ts.length .u), Value.pointer (some a)) :: L'))) = Or2 X (cellsL ((Ob.box (List.replicate ts.length .u), Value.pointer (some a)) :: A' ++ L')) := by
      funext g o; exact propext (or_congr Iff.rfl (hmem g o))
    rw [← heq] at H r ⊢
    obtain ⟨c1, sh1, hl, hok, rv⟩ := ldCells_ok H rfl d0 (fun g o x => hx g o ((hmem g o).1 x)) r e1
    have hlt : vs.length = ts.length := by rw [hl, r.length]
    have hcell : ∀ g o, cellsOf (.box vs) (.pointer (some a)) g o → cellsOf (.box (List.replicate ts.length .u)) (.pointer (some a)) g o := by
      rintro g o ⟨p, q, s⟩; exact ⟨p, q, by simpa [← hlt] using s⟩
    have hd2 := (List.pairwise_cons.1 d0.app.2.1).1
    have sh2 := HR.take (X' := Or2 X (cellsL L')) sh1.hr (fun g o x => x.imp _root_.id fun ⟨p, hp, y⟩ => ⟨p, by simp [hp], y⟩) s k (ob := .box vs) (v := .pointer (some a))
      (fun g o x => ⟨.inr ⟨_, List.mem_cons_self .., hcell g o x⟩, fun y => y.elim (hx g o ⟨_, List.mem_append_left _ (List.mem_cons_self ..), hcell g o x⟩) fun ⟨p, hp, z⟩ => hd2 p hp g o (hcell g o x) z⟩)
      ⟨a, rfl, hs, fun j x hxj => by
        have hj : j < us.length := by have := (List.getElem?_eq_some_iff.1 hxj).1; omega
        have hu : us[j]? = some us[j] := List.getElem?_eq_getElem hj
        obtain ⟨k1, k2⟩ := hc j _ hu
        exact ⟨hok x (List.mem_of_getElem? hxj), us[j], k1, k2, r.one _ (List.mem_of_getElem? hu), rv j x _ hxj hu⟩⟩
    refine ⟨_, sh1.trans sh2, ?_⟩
    exact .ptr (by rw [Hp.new, Hp.put_same]; exact Nat.le_refl _) (fun _ _ _ => ⟨a, Cz.put_same .., hs, by obtain ⟨b, q, sp⟩ := a; simp at hs; subst hs; rfl⟩)
end Go.Ev
