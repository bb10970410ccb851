/- The evaluator: EvOut. -/
import Derived.Test.YtifomiglajcanaaGreatDoorEvLoad
set_option linter.unusedSimpArgs false
set_option linter.unusedVariables false
namespace Go.Ev
set_option linter.unusedVariables false
variable {P : Program} {tb : Tb} {md : Md} {call : CallF} {X X' M : Nat → Nat → Prop} {w w' : World} {h h' : Hp} {c c' : Cz} {B B' : Nat → Nat → Prop}

theorem ldRs_ok [Base] : ∀ {ts : List T} {us : List Value} {A L L' : List Atm} {h h' : Hp} {c : Cz} {s k : Nat} {vs : List V}, HR (Or2 X (cellsL L)) w h c → L = A ++ L' → Disj L → (∀ g o, cellsL L g o → ¬ X g o) → TRs (Bad (Or2 X (cellsL L)) h c) w ts us A →
    ldRs s k ts h = some (vs, h') → ∃ c', Sh (Or2 X (cellsL L)) h c w (Or2 X (cellsL L')) h' c' ∧ vs.length = us.length ∧ ∀ (j : Nat) x u, vs[j]? = some x → us[j]? = some u → RV (Bad (Or2 X (cellsL L')) h' c') w h' c' x u
  | [], us, A, L, L', h, h', c, s, k, vs, H, hL, hd, hx, r, e => by
    cases r
    simp [ldRs] at e; obtain ⟨rfl, rfl⟩ := e
    subst hL
    exact ⟨c, Sh.refl H, rfl, by simp⟩
  | t :: ts, us, A, L, L', h, h', c, s, k, vs, H, hL, hd, hx, r, e => by
    cases r with
    | @cons _ u A1 _ us A2 r1 r2 =>
      simp only [ldRs, Option.bind_eq_some_iff, Option.map_eq_some_iff, Prod.exists] at e
      obtain ⟨v, h1, e1, vs', h2, e2, e3⟩ := e
      simp at e3; obtain ⟨rfl, rfl⟩ := e3
      rw [List.append_assoc] at hL
      obtain ⟨c1, sh1, rv1⟩ := ldT_ok H hL hd hx r1 e1
      subst hL
      obtain ⟨c2, sh2, hl, rv2⟩ := ldRs_ok (L := A2 ++ L') sh1.hr rfl hd.app.2.1 (fun g o x => hx g o (cellsL_append.2 (.inr x))) (r2.less sh1.bad) e2
      refine ⟨c2, sh1.trans sh2, by simp [hl], fun j x y a b => ?_⟩
      cases j with
      | zero => simp at a b; subst a; subst b; exact sh2.rv rv1
      | succ j => exact rv2 j x y (by simpa using a) (by simpa using b)

/-- The parameters; where their boxes lie, and under which number. -/
theorem ldPs_ok [Base] {n : Nat} : ∀ {ts : List T} {us : List Value} {A L L' : List Atm} {h h' : Hp} {c : Cz} {i : Nat} {vs : List V}, HR (Or2 X (cellsL L)) w h c → L = A ++ L' → Disj L → (∀ g o, cellsL L g o → ¬ X g o) → TRs (Bad (Or2 X (cellsL L)) h c) w ts us A →
    ldPs n i ts h = some (vs, h') → ∃ c', Sh (Or2 X (cellsL L)) h c w (Or2 X (cellsL L')) h' c' ∧ vs.length = us.length ∧ ∀ (j : Nat) x u, vs[j]? = some x → us[j]? = some u → RV (Bad (Or2 X (cellsL L')) h' c') w h' c' x u
  | [], us, A, L, L', h, h', c, i, vs, H, hL, hd, hx, r, e => by
    cases r
    simp [ldPs] at e; obtain ⟨rfl, rfl⟩ := e
    subst hL
    exact ⟨c, Sh.refl H, rfl, by simp⟩
  | t :: ts, us, A, L, L', h, h', c, i, vs, H, hL, hd, hx, r, e => by
    cases r with
    | @cons _ u A1 _ us A2 r1 r2 =>
      simp only [ldPs, Option.bind_eq_some_iff, Option.map_eq_some_iff, Prod.exists] at e
      obtain ⟨v, h1, e1, vs', h2, e2, e3⟩ := e
      simp at e3; obtain ⟨rfl, rfl⟩ := e3
      rw [List.append_assoc] at hL
      obtain ⟨c1, sh1, rv1⟩ := ldT_ok H hL hd hx r1 e1
      subst hL
      obtain ⟨c2, sh2, hl, rv2⟩ := ldPs_ok (L := A2 ++ L') sh1.hr rfl hd.app.2.1 (fun g o x => hx g o (cellsL_append.2 (.inr x))) (r2.less sh1.bad) e2
      refine ⟨c2, sh1.trans sh2, by simp [hl], fun j x y a b => ?_⟩
      cases j with
      | zero => simp at a b; subst a; subst b; exact sh2.rv rv1
      | succ j => exact rv2 j x y (by simpa using a) (by simpa using b)

/-! ### Moving out of the heap -/
theorem away_cells {ob : Ob} (ha : ob.away = true) {v : Value} {g o : Nat} : ¬ cellsOf ob v g o := by
  cases ob with
  | lent => exact fun x => x
  | lentR => exact fun x => x
  | row => cases ha
  | box => cases ha
theorem away_ok {ob : Ob} (ha : ob.away = true) {v : Value} : ObR B w h c ob v := by
  cases ob with
  | lent => trivial
  | lentR => trivial
  | row => cases ha
  | box => cases ha
def Sub (h h' : Hp) : Prop := ∀ s k, (h' s k).1 = (h s k).1 ∧ ((h' s k).2 = none ∨ (∃ ob, ob.away = true ∧ (h' s k).2 = some ob) ∨ (h' s k).2 = (h s k).2)
theorem Sub.refl (h : Hp) : Sub h h := fun _ _ => ⟨rfl, .inr (.inr rfl)⟩
theorem Sub.trans {h'' : Hp} (a : Sub h h') (b : Sub h' h'') : Sub h h'' := fun s k => ⟨(b s k).1.trans (a s k).1, (b s k).2.elim .inl fun e => e.elim (fun e => .inr (.inl e)) fun e => (a s k).2.elim (fun e' => .inl (e.trans e')) fun e' => e'.elim (fun ⟨ob, h1, h2⟩ => .inr (.inl ⟨ob, h1, e.trans h2⟩)) fun e' => .inr (.inr (e.trans e'))⟩
theorem Sub.kill [Base] (h : Hp) (s k : Nat) : Sub h (h.mod s k none) := fun s' k' => by
  by_cases hn : s' = s ∧ k' = k
  · obtain ⟨rfl, rfl⟩ := hn; rw [Hp.mod_same]; exact ⟨rfl, .inl rfl⟩
  · rw [Hp.mod_ne _ _ hn]; exact ⟨rfl, .inr (.inr rfl)⟩
theorem Sub.lend [Base] (h : Hp) (s k : Nat) {aw : Ob} (ha : aw.away = true) : Sub h (h.mod s k (some aw)) := fun s' k' => by
  by_cases hn : s' = s ∧ k' = k
  · obtain ⟨rfl, rfl⟩ := hn; rw [Hp.mod_same]; exact ⟨rfl, .inr (.inl ⟨aw, ha, rfl⟩)⟩
  · rw [Hp.mod_ne _ _ hn]; exact ⟨rfl, .inr (.inr rfl)⟩
theorem Sub.some {s k : Nat} {ob : Ob} (a : Sub h h') (e : (h' s k).2 = some ob) (hne : ob.away = false) : (h s k).2 = some ob :=
  (a s k).2.elim (fun e' => by rw [e'] at e; cases e) fun e' => e'.elim (fun ⟨ob', h1, h2⟩ => by rw [h2] at e; injection e with e; subst e; rw [h1] at hne; cases hne) fun e' => e' ▸ e
theorem not_away {ob : Ob} {v : Value} {g o : Nat} (x : cellsOf ob v g o) : ob.away = false := by
  cases ob <;> first | rfl | exact x.elim

/-- Objects have left the heap; their cells are the others' now. -/
structure Moved [Base] (X : Nat → Nat → Prop) (w : World) (h : Hp) (c : Cz) (h' : Hp) (L : List Atm) : Prop where
  sh : Sh X h c w (Or2 X (cellsL L)) h' c
  inm : ∀ g o, cellsL L g o → Mut h c g o
  disj : Disj L
  sub : Sub h h'
theorem Or2_nil : Or2 X (cellsL []) = X := by funext g o; exact propext ⟨fun x => x.elim _root_.id fun ⟨_, hp, _⟩ => by simp at hp, .inl⟩
theorem Or2_app [Base] (L L' : List Atm) : Or2 (Or2 X (cellsL L)) (cellsL L') = Or2 X (cellsL (L ++ L')) := by
  funext g o; simp only [Or2, cellsL_append]; exact propext or_assoc
theorem Moved.zero [Base] (H : HR X w h c) : Moved X w h c h [] := ⟨by rw [Or2_nil]; exact Sh.refl H, fun g o ⟨p, hp, _⟩ => by simp at hp, List.Pairwise.nil, Sub.refl h⟩
theorem Moved.trans [Base] {h'' : Hp} {L L' : List Atm} (a : Moved X w h c h' L) (b : Moved (Or2 X (cellsL L)) w h' c h'' L') : Moved X w h c h'' (L ++ L') := by
  have hm : ∀ g o, Mut h' c g o → Mut h c g o := by
    rintro g o ⟨s, k, ob, e, hcell⟩
    exact ⟨s, k, ob, a.sub.some e (not_away hcell), hcell⟩
  refine ⟨?_, fun g o x => (cellsL_append.1 x).elim (a.inm g o) fun y => hm g o (b.inm g o y), Disj.mk a.disj b.disj fun g o x y => ?_, a.sub.trans b.sub⟩
  · rw [← Or2_app]; exact a.sh.trans b.sh
  · exact a.sh.hr.nx g o (b.inm g o y) (.inr x)
theorem cellsL_one {p : Atm} {g o : Nat} : cellsL [p] g o ↔ cellsOf p.1 p.2 g o := by simp [cellsL]
theorem Moved.one [Base] (H : HR X w h c) {s k : Nat} {ob : Ob} (e : (h s k).2 = some ob) : Moved X w h c (h.mod s k none) [(ob, c s k)] := by
  have := HR.give H e
  have he : Or2 X (cellsL [(ob, c s k)]) = Or2 X (cellsOf ob (c s k)) := by funext g o; simp only [Or2, cellsL_one]
  exact ⟨by rw [he]; exact this, fun g o x => ⟨s, k, ob, e, cellsL_one.1 x⟩, List.pairwise_singleton _ _, Sub.kill h s k⟩

theorem Moved.lend [Base] (H : HR X w h c) {s k : Nat} {ob aw : Ob} (e : (h s k).2 = some ob) (ha : aw.away = true) (hb : aw.isB = ob.isB) (hd : aw.isB = false → ob.dim = aw.dim) : Moved X w h c (h.mod s k (some aw)) [(ob, c s k)] := by
  have hget : ∀ s' k' ob', ((h.mod s k (some aw)) s' k').2 = some ob' → ob' = aw ∨ (¬ (s' = s ∧ k' = k) ∧ (h s' k').2 = some ob') := by
    intro s' k' ob' e'
    by_cases hn : s' = s ∧ k' = k
    · obtain ⟨rfl, rfl⟩ := hn; rw [Hp.mod_same] at e'; injection e' with e'; exact .inl e'.symm
    · rw [Hp.mod_ne _ _ hn] at e'; exact .inr ⟨hn, e'⟩
  have hN : Nm h c (h.mod s k (some aw)) c := by
    refine ⟨fun s' k' => by rw [Hp.mod_1]; exact Nat.le_refl _, fun s' k' ob2 hb2 _ e' => ?_, fun s' k' ob2 hb2 _ e' => ?_⟩
    · rcases hget _ _ _ e' with h1 | ⟨_, h1⟩
      · subst h1
        by_cases hn : s' = s ∧ k' = k
        · obtain ⟨rfl, rfl⟩ := hn; exact ⟨rfl, ob, by rw [← hb]; exact hb2, e, hd hb2⟩
        · rw [Hp.mod_ne _ _ hn] at e'; exact ⟨rfl, _, hb2, e', rfl⟩
      · exact ⟨rfl, ob2, hb2, h1, rfl⟩
    · by_cases hn : s' = s ∧ k' = k
      · obtain ⟨rfl, rfl⟩ := hn
        rw [Hp.mod_same] at e'; injection e' with e'; subst e'
        exact ⟨rfl, ob, by rw [← hb]; exact hb2, e⟩
      · rw [Hp.mod_ne _ _ hn] at e'; exact ⟨rfl, ob2, hb2, e'⟩
  have hmut : ∀ g o, Mut (h.mod s k (some aw)) c g o → Mut h c g o := by
    rintro g o ⟨s', k', ob', e', hcell⟩
    rcases hget _ _ _ e' with rfl | ⟨_, e'⟩
    · exact (away_cells ha hcell).elim
    · exact ⟨s', k', ob', e', hcell⟩
  have hbad : ∀ g o, g < w.heap.size → Bad (Or2 X (cellsL [(ob, c s k)])) (h.mod s k (some aw)) c g o → Bad X h c g o := by
    rintro g o hg ((hx | hx) | hm)
    · exact .inl hx
    · exact .inr ⟨s, k, _, e, cellsL_one.1 hx⟩
    · exact .inr (hmut g o hm)
  refine ⟨⟨⟨H.bs.sub hbad, fun s' k' ob' e' => ?_, fun s1 k1 s2 k2 ob1 ob2 g o e1 e2 hne h1 h2 => ?_, fun g o hm hx => ?_, fun g o hx => ?_⟩, hbad, hN⟩, fun g o x => ⟨s, k, _, e, cellsL_one.1 x⟩, List.pairwise_singleton _ _, Sub.lend h s k ha⟩
  · rcases hget _ _ _ e' with rfl | ⟨_, e'⟩
    · exact away_ok ha
    · exact (H.ok s' k' ob' e').keep (Fr.refl (fun _ _ => False) w) (fun _ _ _ x => x.elim) hbad hN fun _ _ _ => _root_.id
  · rcases hget _ _ _ e1 with rfl | ⟨_, e1⟩
    · exact (away_cells ha h1).elim
    · rcases hget _ _ _ e2 with rfl | ⟨_, e2⟩
      · exact (away_cells ha h2).elim
      · exact H.sep s1 k1 s2 k2 ob1 ob2 g o e1 e2 hne h1 h2
  · obtain ⟨s', k', ob', e', hcell⟩ := hm
    rcases hget _ _ _ e' with rfl | ⟨hn, e'⟩
    · exact (away_cells ha hcell).elim
    · rcases hx with hx | hx
      · exact H.nx g o ⟨s', k', ob', e', hcell⟩ hx
      · exact H.sep s' k' s k ob' _ g o e' e hn hcell (cellsL_one.1 hx)
  · rcases hx with hx | hx
    · exact H.xl g o hx
    · exact cellsOf_lt (H.ok s k _ e) (cellsL_one.1 hx)

theorem OwnR.nil [Base] {f : Bool} {sz : Nat} : OwnR B w (.slice none 0 0) f sz [] := ⟨[], OwnRow.nil w sz, by simp, by simp, by simp⟩
theorem outCell_ok [Base] (H : HR X w h c) {v : V} {u : Value} (r : RV (Bad X h c) w h c v u) {t : T} (e : outCell h v = some (t, h')) : ∃ A, Moved X w h c h' A ∧ TC (Bad (Or2 X (cellsL A)) h' c) w t u A := by
  cases r with
  | d hx => simp [outCell] at e; obtain ⟨rfl, rfl⟩ := e; exact ⟨[], Moved.zero H, .d (by rw [Or2_nil]; exact hx)⟩
  | @nl f sz =>
    simp [outCell] at e; obtain ⟨rfl, rfl⟩ := e
    refine ⟨[(.row true f sz [], .slice none 0 0)], ⟨?_, fun g o x => (cellsL_one.1 x).elim, List.pairwise_singleton _ _, Sub.refl h⟩, .own OwnR.nil rfl⟩
    have : Or2 X (cellsL [(Ob.row true f sz [], Value.slice none 0 0)]) = X := by funext g o; exact propext ⟨fun x => x.elim _root_.id fun y => (cellsL_one.1 y).elim, .inl⟩
    rw [this]; exact Sh.refl H
  | @own s k g _ hg hv h1 =>
    simp only [outCell] at e
    cases hh : h.get s k g with
    | none => simp [hh] at e
    | some ob =>
      cases ob with
      | box => simp [hh] at e
      | lent => simp [hh] at e
      | lentR => simp [hh] at e
      | row o f sz xs =>
        have hs := (get_some hh).2
        have hu := hv _ hh rfl
        cases o with
        | true =>
          simp [hh] at e; obtain ⟨rfl, rfl⟩ := e
          have m := Moved.one H hs
          rw [← hu] at m
          refine ⟨_, m, .own ?_ h1⟩
          have : OwnR (Bad X h c) w u f sz xs := by rw [hu]; exact H.ok s k _ hs
          exact OwnR.keep (Fr.refl (fun _ _ => False) w) (fun _ _ _ x => x.elim) m.sh.bad (fun _ _ _ => _root_.id) this
        | false =>
          simp [hh] at e; obtain ⟨rfl, rfl⟩ := e
          refine ⟨[], Moved.zero H, .d ?_⟩
          rw [Or2_nil, hu]
          exact H.ok s k (.row false f sz xs) hs
  | agg | ptr | ept | rpt | tup | u => simp [outCell] at e

theorem outCells_ok [Base] : ∀ {vs : List V} {us : List Value} {X : Nat → Nat → Prop} {h h' : Hp} {ts : List T}, HR X w h c → (∀ (j : Nat) x u, vs[j]? = some x → us[j]? = some u → RV (Bad X h c) w h c x u) → vs.length = us.length → outCells vs h = some (ts, h') →
    ∃ A, Moved X w h c h' A ∧ TCs (Bad (Or2 X (cellsL A)) h' c) w ts us A ∧ ts.length = vs.length
  | [], us, X, h, h', ts, H, hr, hl, e => by
    simp [outCells] at e; obtain ⟨rfl, rfl⟩ := e
    obtain rfl : us = [] := List.eq_nil_of_length_eq_zero (by simpa using hl.symm)
    exact ⟨[], Moved.zero H, .nil, rfl⟩
  | v :: vs, [], X, h, h', ts, H, hr, hl, e => by simp at hl
  | v :: vs, u :: us, X, h, h', ts, H, hr, hl, e => by
    simp only [outCells, Option.bind_eq_some_iff, Option.map_eq_some_iff, Prod.exists] at e
    obtain ⟨t, h1, e1, ts', h2, e2, e3⟩ := e
    simp at e3; obtain ⟨rfl, rfl⟩ := e3
    obtain ⟨A1, m1, r1⟩ := outCell_ok H (hr 0 v u rfl rfl) e1
    obtain ⟨A2, m2, r2, hl2⟩ := outCells_ok m1.sh.hr (fun j x y a b => m1.sh.rv (hr (j + 1) x y (by simpa using a) (by simpa using b))) (by simpa using hl) e2
    refine ⟨A1 ++ A2, m1.trans m2, ?_, by simp [hl2]⟩
    rw [← Or2_app]
    refine .cons (r1.keep (Fr.refl (fun _ _ => False) w) (fun _ _ _ x => x.elim) m2.sh.bad fun _ _ _ => _root_.id) r2

/-! ### Showing -/
/-- What is shown reads as data at the end. -/
def ShownOk (Bf : Nat → Nat → Prop) (w : World) (h' : Hp) (c : Cz) (a : List (Nat × Nat)) : Prop := ∀ p ∈ a, ∃ f sz xs, (h' p.1 p.2).2 = some (.row true f sz xs) ∧ RO Bf w (.l f sz xs) (c p.1 p.2)
theorem roCell_ok [Base] {Bf : Nat → Nat → Prop} (H : HR X w h c) {v : V} {u : Value} (r : RV (Bad X h c) w h c v u) {t : T} {a : List (Nat × Nat)} (e : roCell h v = some (t, a)) (hs : Sub h h') (ha : ShownOk Bf w h' c a) (hb : ∀ g o, g < w.heap.size → Bf g o → Bad X h c g o) : TC Bf w t u [] := by
  cases r with
  | d hx => simp [roCell] at e; obtain ⟨rfl, rfl⟩ := e; exact .d (hx.keep (fun _ _ _ _ => rfl) hb)
  | nl => simp [roCell] at e; obtain ⟨rfl, rfl⟩ := e; exact .d (.l _ _ [] none 0 (fun _ _ => undef) (by simp) (by simp) (by simp) (fun h => absurd rfl h) (by simp))
  | @own s k g _ hg hv h1 =>
    simp only [roCell] at e
    cases hh : h.get s k g with
    | none => simp [hh] at e
    | some ob =>
      cases ob with
      | box => simp [hh] at e
      | lent => simp [hh] at e
      | lentR => simp [hh] at e
      | row o f sz xs =>
        simp [hh] at e; obtain ⟨rfl, rfl⟩ := e
        rw [hv _ hh rfl]
        have hs2 := (get_some hh).2
        cases o with
        | true =>
          obtain ⟨f', sz', xs', e1, e2⟩ := ha (s, k) (by simp)
          have := hs.some e1 rfl
          rw [hs2] at this; injection this with this; injection this with _ q1 q2 q3; subst q1; subst q2; subst q3
          exact .d e2
        | false => exact .d (RO.keep (fun _ _ _ _ => rfl) hb (H.ok s k (.row false f sz xs) hs2))
  | agg | ptr | ept | rpt | tup | u => simp [roCell] at e
theorem roCells_ok [Base] {Bf : Nat → Nat → Prop} (H : HR X w h c) (hs : Sub h h') (hb : ∀ g o, g < w.heap.size → Bf g o → Bad X h c g o) : ∀ {vs : List V} {us : List Value} {ts : List T} {a : List (Nat × Nat)}, (∀ (j : Nat) x u, vs[j]? = some x → us[j]? = some u → RV (Bad X h c) w h c x u) → vs.length = us.length →
    roCells h vs = some (ts, a) → ShownOk Bf w h' c a → TCs Bf w ts us []
  | [], us, ts, a, hr, hl, e, ha => by
    simp [roCells] at e; obtain ⟨rfl, rfl⟩ := e
    obtain rfl : us = [] := List.eq_nil_of_length_eq_zero (by simpa using hl.symm)
    exact .nil
  | v :: vs, [], ts, a, hr, hl, e, ha => by simp at hl
  | v :: vs, u :: us, ts, a, hr, hl, e, ha => by
    simp only [roCells, Option.bind_eq_some_iff, Option.map_eq_some_iff, Prod.exists] at e
    obtain ⟨t, a1, e1, ts', a2, e2, e3⟩ := e
    simp at e3; obtain ⟨rfl, rfl⟩ := e3
    have r1 := roCell_ok H (hr 0 v u rfl rfl) e1 hs (fun p hp => ha p (List.mem_append_left _ hp)) hb
    have r2 := roCells_ok H hs hb (fun j x y p q => hr (j + 1) x y (by simpa using p) (by simpa using q)) (by simpa using hl) e2 (fun p hp => ha p (List.mem_append_right _ hp))
    exact .cons (A := []) (L := []) r1 r2

theorem freezes_ok [Base] : ∀ (a : List (Nat × Nat)) {h : Hp}, HR X w h c → ∃ M, (∀ g o, ¬ M g o) ∧ Mv X M w h c w (freezes a h) c
  | [], h, H => ⟨fun _ _ => False, fun _ _ => _root_.id, Mv.refl H _ fun _ _ => _root_.id⟩
  | (s, k) :: r, h, H => by
    have m : Mv X (fun _ _ => False) w h c w (match (h s k).2 with | some (.row _ f sz xs) => h.mod s k (some (.row false f sz xs)) | _ => h) c := by
      split
      · rename_i o f sz xs e
        cases o with
        | true => exact Mv.freeze H e
        | false => rw [mod_self e]; exact Mv.refl H _ fun _ _ => _root_.id
      · exact Mv.refl H _ fun _ _ => _root_.id
    obtain ⟨M, h0, m2⟩ := freezes_ok r m.hr
    exact ⟨fun _ _ => False, fun _ _ => _root_.id, m.trans m2 (fun g o _ x => x.elim _root_.id (h0 g o)) fun _ _ _ x => x.elim⟩
/-- What was frozen is frozen. -/
theorem freezes_at [Base] : ∀ (a : List (Nat × Nat)) {h : Hp} {s k : Nat} {o f : Bool} {sz : Nat} {xs : List (List D)}, (h s k).2 = some (.row o f sz xs) → (o = false ∨ (s, k) ∈ a) → ((freezes a h) s k).2 = some (.row false f sz xs)
  | [], h, s, k, o, f, sz, xs, e, ho => by
    rcases ho with rfl | ho
    · exact e
    · simp at ho
  | (s', k') :: r, h, s, k, o, f, sz, xs, e, ho => by
    simp only [freezes]
    by_cases hn : s = s' ∧ k = k'
    · obtain ⟨rfl, rfl⟩ := hn
      rw [e]
      exact freezes_at r (o := false) (by show ((h.mod s k (some (.row false f sz xs))) s k).2 = _; rw [Hp.mod_same]) (.inl rfl)
    · refine freezes_at r (o := o) ?_ (ho.imp _root_.id fun hm => ?_)
      · cases hob : (h s' k').2 with
        | none => exact e
        | some ob =>
          cases ob with
          | box => exact e
          | lent => exact e
          | lentR => exact e
          | row o' f' sz' xs' => show ((h.mod s' k' (some (.row false f' sz' xs'))) s k).2 = _; rw [Hp.mod_ne _ _ hn]; exact e
      · rcases List.mem_cons.1 hm with hm | hm
        · exact absurd (by simpa using hm) hn
        · exact hm
end Go.Ev
