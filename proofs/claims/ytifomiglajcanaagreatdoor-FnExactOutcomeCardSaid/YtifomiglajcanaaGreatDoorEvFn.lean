/- The evaluator: EvFn. -/
import Derived.Test.YtifomiglajcanaaGreatDoorEvCode
set_option linter.unusedSimpArgs false
set_option linter.unusedVariables false
namespace Go.Ev
set_option linter.unusedVariables false
variable {P : Program} {tb : Tb} {md : Md} {call : CallF} {X X' M : Nat → Nat → Prop} {w w' : World} {h h' : Hp} {c c' : Cz} {B B' : Nat → Nat → Prop} {S S' : St} {a a' : Act}

/-- Objects have left the heap; rows may have been frozen. -/
structure MovedF [Base] (X : Nat → Nat → Prop) (w : World) (h : Hp) (c : Cz) (h' : Hp) (L : List Atm) : Prop where
  sh : Sh X h c w (Or2 X (cellsL L)) h' c
  inm : ∀ g o, cellsL L g o → Mut h c g o
  disj : Disj L
  mut_ : ∀ g o, Mut h' c g o → Mut h c g o
theorem Moved.f [Base] {L : List Atm} (m : Moved X w h c h' L) : MovedF X w h c h' L :=
  ⟨m.sh, m.inm, m.disj, by rintro g o ⟨s, k, ob, e, x⟩; exact ⟨s, k, ob, m.sub.some e (not_away x), x⟩⟩
theorem MovedF.trans [Base] {h'' : Hp} {L L' : List Atm} (a : MovedF X w h c h' L) (b : MovedF (Or2 X (cellsL L)) w h' c h'' L') : MovedF X w h c h'' (L ++ L') :=
  ⟨by rw [← Or2_app]; exact a.sh.trans b.sh, fun g o x => (cellsL_append.1 x).elim (a.inm g o) fun y => a.mut_ g o (b.inm g o y), Disj.mk a.disj b.disj fun g o x y => a.sh.hr.nx g o (b.inm g o y) (.inr x), fun g o x => a.mut_ g o (b.mut_ g o x)⟩
theorem MovedF.freezes [Base] (H : HR X w h c) (a : List (Nat × Nat)) : MovedF X w h c (freezes a h) [] := by
  obtain ⟨M, hM, m⟩ := freezes_ok a H
  have hmut : ∀ g o, Mut (Ev.freezes a h) c g o → Mut h c g o := fun g o x => m.mut_ g o (Mut_lt m.hr x) x
  exact ⟨by rw [Or2_nil]; exact ⟨m.hr, fun g o _ x => x.imp _root_.id (hmut g o), m.nm⟩, fun g o ⟨p, hp, _⟩ => by simp at hp, List.Pairwise.nil, hmut⟩

theorem roCell_own {v : V} {t : T} {a : List (Nat × Nat)} (e : roCell h v = some (t, a)) : ∀ p ∈ a, ∃ f sz xs, (h p.1 p.2).2 = some (.row true f sz xs) := by
  cases v <;> simp only [roCell] at e
  case d | nl => simp at e; obtain ⟨_, rfl⟩ := e; simp
  case own s k g =>
    cases hh : h.get s k g with
    | none => simp [hh] at e
    | some ob =>
      cases ob with
      | box => simp [hh] at e
      | lent => simp [hh] at e
      | lentR => simp [hh] at e
      | row o f sz xs =>
        simp [hh] at e; obtain ⟨_, rfl⟩ := e
        cases o with
        | false => simp
        | true => intro p hp; simp at hp; subst hp; exact ⟨f, sz, xs, (get_some hh).2⟩
  all_goals cases e
theorem roCells_own [Base] : ∀ {vs : List V} {ts : List T} {a : List (Nat × Nat)}, roCells h vs = some (ts, a) → ∀ p ∈ a, ∃ f sz xs, (h p.1 p.2).2 = some (.row true f sz xs)
  | [], ts, a, e => by simp [roCells] at e; obtain ⟨_, rfl⟩ := e; simp
  | v :: vs, ts, a, e => by
    simp only [roCells, Option.bind_eq_some_iff, Option.map_eq_some_iff, Prod.exists] at e
    obtain ⟨t, a1, e1, ts', a2, e2, e3⟩ := e
    simp at e3; obtain ⟨_, rfl⟩ := e3
    intro p hp
    rcases List.mem_append.1 hp with hp | hp
    · exact roCell_own e1 p hp
    · exact roCells_own e2 p hp
theorem shown_of [Base] (H : HR X w h c) {a : List (Nat × Nat)} (ha : ∀ p ∈ a, ∃ f sz xs, (h p.1 p.2).2 = some (.row true f sz xs)) : ShownOk (Bad X (freezes a h) c) w h c a := by
  intro p hp
  obtain ⟨f, sz, xs, e⟩ := ha p hp
  exact ⟨f, sz, xs, e, (MovedF.freezes H a).sh.hr |> fun H' => by
    rw [Or2_nil] at H'
    exact H'.ok p.1 p.2 (.row false f sz xs) (freezes_at a e (.inr hp))⟩

theorem retT_ok [Base] (H : HR X w h c) {v : V} {u : Value} (r : RV (Bad X h c) w h c v u) {ty : Nat} {own : Bool} {t : T} (e : retT tb ty own h v = some (t, h')) :
    ∃ A, MovedF X w h c h' A ∧ TR (Bad (Or2 X (cellsL A)) h' c) w t u A := by
  have r' := r.fix (elSz tb ty)
  unfold retT at e
  have plain : ∀ {v : V}, RV (Bad X h c) w h c v u → (if own then match outCell h v with | some (.own f sz xs, h) => some (T.own f sz xs, h) | _ => none else (roCell h v).map fun (t, a) => (t, freezes a h)) = some (t, h') →
      ∃ A, MovedF X w h c h' A ∧ TR (Bad (Or2 X (cellsL A)) h' c) w t u A := by
    intro v rv e
    split at e
    · split at e
      · rename_i f sz xs h1 ho
        simp at e; obtain ⟨rfl, rfl⟩ := e
        obtain ⟨A, m, tc⟩ := outCell_ok H rv ho
        exact ⟨A, m.f, .c tc⟩
      · cases e
    · simp only [Option.map_eq_some_iff, Prod.exists] at e
      obtain ⟨t1, a1, e1, e2⟩ := e
      simp at e2; obtain ⟨rfl, rfl⟩ := e2
      have m := MovedF.freezes H a1
      refine ⟨[], m, ?_⟩
      have hb := m.sh.bad
      rw [Or2_nil] at hb ⊢
      exact .c (roCell_ok H rv e1 (Sub.refl h) (shown_of H (roCell_own e1)) hb)
  cases hv : v.fix (elSz tb ty) with
  | agg cs =>
    rw [hv] at r' e
    simp only [Option.map_eq_some_iff, Prod.exists] at e
    obtain ⟨ts, a1, e1, e2⟩ := e
    simp at e2; obtain ⟨rfl, rfl⟩ := e2
    cases r' with
    | @agg _ us hl ho h1 hr =>
      have m := MovedF.freezes H a1
      refine ⟨[], m, ?_⟩
      have hb := m.sh.bad
      rw [Or2_nil] at hb ⊢
      exact .agg (roCells_ok H (Sub.refl h) hb (us := us.toList) (fun j x u p q => hr j x u p (by simpa using q)) (by simpa using hl) e1 (shown_of H (roCells_own e1)))
  | ptr s k g o =>
    rw [hv] at r' e
    cases o with
    | succ o => simp at e; exact plain (v := .ptr s k g (o + 1)) r' e
    | zero =>
      simp only at e
      cases hh : h.get s k g with
      | none => simp [hh] at e
      | some ob =>
        cases ob with
        | row => simp [hh] at e
        | lent => simp [hh] at e
        | lentR => simp [hh] at e
        | box cs =>
          simp only [hh, Option.map_eq_some_iff, Prod.exists] at e
          obtain ⟨ts, h1, e1, e2⟩ := e
          simp at e2; obtain ⟨rfl, rfl⟩ := e2
          cases r' with
          | ptr hg hv' =>
            obtain ⟨ad, c1, c2, rfl⟩ := hv' _ hh rfl
            obtain ⟨b, q, sp⟩ := ad
            simp at c2; subst c2
            obtain ⟨ad', c1', _, hj⟩ := H.ok s k _ (get_some hh).2
            rw [c1] at c1'; injection c1' with c1'; injection c1' with c1'; subst c1'
            simp only at hj
            have hat : At (Bad X h c) w h c b q cs := fun j x hx => by
              obtain ⟨p, u, p1, _, p3, p4⟩ := hj j x hx
              exact ⟨p, u, p1, p3, p4⟩
            obtain ⟨us, hul, huc, hur⟩ := At.values hat
            obtain ⟨A1, m1, tcs, htl⟩ := outCells_ok H hur hul.symm e1
            have m2 := Moved.one m1.sh.hr (outCells_box e1 (get_some hh).2)
            have m12 := m1.trans m2
            rw [c1] at m12
            have hp : (A1 ++ [(Ob.box cs, Value.pointer (some ⟨b, q, none⟩))]).Perm ((Ob.box cs, Value.pointer (some ⟨b, q, none⟩)) :: A1) := List.perm_append_comm
            have hcell : ∀ g o, cellsL ((Ob.box (List.replicate ts.length .u), Value.pointer (some (⟨b, q, none⟩ : Addr))) :: A1) g o ↔ cellsL (A1 ++ [(Ob.box cs, Value.pointer (some ⟨b, q, none⟩))]) g o := by
              intro g o
              rw [← cellsL_perm hp]
              have : ∀ g o, cellsOf (Ob.box (List.replicate ts.length .u)) (Value.pointer (some (⟨b, q, none⟩ : Addr))) g o ↔ cellsOf (Ob.box cs) (Value.pointer (some (⟨b, q, none⟩ : Addr))) g o := by
                intro g o; simp only [cellsOf, List.length_replicate, htl]
              simp only [cellsL, List.mem_cons]
              constructor
              · rintro ⟨p, rfl | hp, x⟩
                · exact ⟨_, .inl rfl, (this g o).1 x⟩
                · exact ⟨p, .inr hp, x⟩
              · rintro ⟨p, rfl | hp, x⟩
                · exact ⟨_, .inl rfl, (this g o).2 x⟩
                · exact ⟨p, .inr hp, x⟩
            have hd2 := m12.disj.perm hp
            have m3 := m12.cells (L' := (Ob.box (List.replicate ts.length .u), Value.pointer (some (⟨b, q, none⟩ : Addr))) :: A1) hcell (by
              obtain ⟨p1, p2⟩ := List.pairwise_cons.1 hd2
              exact List.pairwise_cons.2 ⟨fun p hp g o x y => p1 p hp g o (by simpa only [cellsOf, List.length_replicate, htl] using x) y, p2⟩)
            refine ⟨_, m3.f, .ptr (a := ⟨b, q + 0, none⟩) (tcs.less fun g o hg x => ?_) rfl fun j u hu => ?_⟩
            · have heq : Or2 X (cellsL ((Ob.box (List.replicate ts.length .u), Value.pointer (some (⟨b, q, none⟩ : Addr))) :: A1)) = Or2 (Or2 X (cellsL A1)) (cellsL [(Ob.box cs, c s k)]) := by
                rw [Or2_app, c1]; funext g o; exact propext (or_congr Iff.rfl (hcell g o))
              rw [heq] at x
              exact m2.sh.bad g o hg x
            · have hjl : j < cs.length := by have := (List.getElem?_eq_some_iff.1 hu).1; omega
              obtain ⟨_, u', p1, p2, _⟩ := hj j _ (List.getElem?_eq_getElem hjl)
              exact ⟨(huc j u hu).1, p2⟩
  | d x => rw [hv] at r' e; exact plain r' e
  | nl sz => rw [hv] at r' e; exact plain r' e
  | own s k g => rw [hv] at r' e; exact plain r' e
  | ept s k g i o => rw [hv] at r' e; exact plain r' e
  | rpt f sz xs i o => rw [hv] at r' e; exact plain r' e
  | tup vs => rw [hv] at r' e; exact plain r' e
  | u => rw [hv] at r' e; exact plain r' e

theorem TR.shift [Base] (hb : ∀ g o, g < w.heap.size → B' g o → B g o) {t : T} {u : Value} {A : List Atm} (h : TR B w t u A) : TR B' w t u A := h.less hb
theorem retTs_ok [Base] {owns : List Bool} : ∀ {vs : List V} {us : List Value} {X : Nat → Nat → Prop} {h h' : Hp} {i : Nat} {tys : List Nat} {ts : List T}, HR X w h c → (∀ (j : Nat) x u, vs[j]? = some x → us[j]? = some u → RV (Bad X h c) w h c x u) → vs.length = us.length →
    retTs tb owns i tys vs h = some (ts, h') → ∃ A, MovedF X w h c h' A ∧ TRs (Bad (Or2 X (cellsL A)) h' c) w ts us A
  | [], us, X, h, h', i, tys, ts, H, hr, hl, e => by
    simp [retTs] at e; obtain ⟨rfl, rfl⟩ := e
    obtain rfl : us = [] := List.eq_nil_of_length_eq_zero (by simpa using hl.symm)
    exact ⟨[], (Moved.zero H).f, .nil⟩
  | v :: vs, us, X, h, h', i, [], ts, H, hr, hl, e => by simp [retTs] at e
  | v :: vs, [], X, h, h', i, ty :: tys, ts, H, hr, hl, e => by simp at hl
  | v :: vs, u :: us, X, h, h', i, ty :: tys, ts, H, hr, hl, e => by
    simp only [retTs, Option.bind_eq_some_iff, Option.map_eq_some_iff, Prod.exists] at e
    obtain ⟨t, h1, e1, ts', h2, e2, e3⟩ := e
    simp at e3; obtain ⟨rfl, rfl⟩ := e3
    obtain ⟨A1, m1, k1⟩ := retT_ok H (hr 0 v u rfl rfl) e1
    obtain ⟨A2, m2, k2⟩ := retTs_ok m1.sh.hr (fun j x y p q => m1.sh.rv (hr (j + 1) x y (by simpa using p) (by simpa using q))) (by simpa using hl) e2
    refine ⟨A1 ++ A2, m1.trans m2, ?_⟩
    rw [← Or2_app]
    exact .cons (k1.less m2.sh.bad) k2

theorem outPs_ok [Base] : ∀ {ts : List T} {us : List Value} {X : Nat → Nat → Prop} {h : Hp} {i : Nat} {ps : List T}, HR X w h c → ts.length = us.length → (∀ (j : Nat) cs u, ts[j]? = some (.ptr cs) → us[j]? = some u → RV (Bad X h c) w h c (.ptr (i + j) 0 1 0) u) →
    (∀ (j : Nat) f sz xs u, ts[j]? = some (.lend f sz xs) → us[j]? = some u → RV (Bad X h c) w h c (.own (i + j) 0 1) u) → outPs i ts h = some ps →
    ∃ h' A, MovedF X w h c h' A ∧ TRs (Bad (Or2 X (cellsL A)) h' c) w ps (ptrsOf ts us) A
  | [], us, X, h, i, ps, H, hl, hr, hro, e => by
    simp [outPs] at e; subst e
    obtain rfl : us = [] := List.eq_nil_of_length_eq_zero (by simpa using hl.symm)
    exact ⟨h, [], (Moved.zero H).f, .nil⟩
  | t :: ts, [], X, h, i, ps, H, hl, hr, hro, e => by simp at hl
  | t :: ts, u :: us, X, h, i, ps, H, hl, hr, hro, e => by
    have skip : outPs (i + 1) ts h = some ps → ∃ h' A, MovedF X w h c h' A ∧ TRs (Bad (Or2 X (cellsL A)) h' c) w ps (ptrsOf ts us) A := fun e =>
      outPs_ok H (by simpa using hl) (fun j cs u' p q => by have := hr (j + 1) cs u' (by simpa using p) (by simpa using q); rwa [show i + (j + 1) = i + 1 + j by omega] at this)
        (fun j f sz xs u' p q => by have := hro (j + 1) f sz xs u' (by simpa using p) (by simpa using q); rwa [show i + (j + 1) = i + 1 + j by omega] at this) e
    cases t with
    | d x => exact skip e
    | agg x => exact skip e
    | own f sz xs => exact skip e
    | lend f0 sz0 xs0 =>
      simp only [outPs] at e
      cases hh : h.get i 0 1 with
      | none => simp [hh] at e
      | some ob =>
        cases ob with
        | box => simp [hh] at e
        | lent => simp [hh] at e
        | lentR => simp [hh] at e
        | row o f sz xs =>
          cases o with
          | false => simp [hh] at e
          | true =>
            simp only [hh, Option.map_eq_some_iff] at e
            obtain ⟨ps', e2, rfl⟩ := e
            have r0 := hro 0 f0 sz0 xs0 u rfl rfl
            rw [Nat.add_zero] at r0
            have er : outCell h (.own i 0 1) = some (.own f sz xs, h.mod i 0 none) := by simp [outCell, hh]
            obtain ⟨A1, m1, k1⟩ := outCell_ok H r0 er
            obtain ⟨h2, A2, m2, k2⟩ := outPs_ok m1.sh.hr (by simpa using hl) (fun j cs u' p q => by
              have := m1.sh.rv (hr (j + 1) cs u' (by simpa using p) (by simpa using q))
              rwa [show i + (j + 1) = i + 1 + j by omega] at this) (fun j f sz xs u' p q => by
              have := m1.sh.rv (hro (j + 1) f sz xs u' (by simpa using p) (by simpa using q))
              rwa [show i + (j + 1) = i + 1 + j by omega] at this) e2
            refine ⟨h2, A1 ++ A2, m1.f.trans m2, ?_⟩
            rw [← Or2_app]
            exact .cons (TR.less m2.sh.bad (.c k1)) k2
    | ptr cs0 =>
      simp only [outPs] at e
      cases hh : h.get i 0 1 with
      | none => simp [hh] at e
      | some ob =>
        cases ob with
        | row => simp [hh] at e
        | lent => simp [hh] at e
        | lentR => simp [hh] at e
        | box cs =>
          simp only [hh, Option.bind_eq_some_iff, Option.map_eq_some_iff, Prod.exists] at e
          obtain ⟨us', h1, e1, ps', e2, rfl⟩ := e
          have r0 := hr 0 cs0 u rfl rfl
          rw [Nat.add_zero] at r0
          have er : retT (fun _ => none) 0 false h (.ptr i 0 1 0) = some (.ptr us', h1.mod i 0 none) := by
            simp [retT, V.fix, hh, e1]
          obtain ⟨A1, m1, k1⟩ := retT_ok H r0 er
          obtain ⟨h2, A2, m2, k2⟩ := outPs_ok m1.sh.hr (by simpa using hl) (fun j cs u' p q => by
            have := m1.sh.rv (hr (j + 1) cs u' (by simpa using p) (by simpa using q))
            rwa [show i + (j + 1) = i + 1 + j by omega] at this) (fun j f sz xs u' p q => by
            have := m1.sh.rv (hro (j + 1) f sz xs u' (by simpa using p) (by simpa using q))
            rwa [show i + (j + 1) = i + 1 + j by omega] at this) e2
          refine ⟨h2, A1 ++ A2, m1.trans m2, ?_⟩
          rw [← Or2_app]
          exact .cons (k1.less m2.sh.bad) k2

theorem resV_ok [Base] (T : TbOk P tb) (H : FR X w S c a) : ∀ {rs : List ResultVar} {vs : List V}, (rs.mapM fun r => match r with | .tmp t => some (S.env t) | .cell ad t => loadV tb S.h t (S.env ad)) = some vs →
    ∃ us : List Value, (rs.mapM (m := Sem) fun r => match r with | .tmp t => pure (a.tmps.getD t undef) | .cell ad t => do loadVar t (← asAddr (a.tmps.getD ad undef))).run P w = .ok us w ∧ vs.length = us.length ∧ ∀ (j : Nat) x u, vs[j]? = some x → us[j]? = some u → RV (Bad X S.h c) w S.h c x u
  | [], vs, e => by simp at e; subst e; exact ⟨[], rfl, rfl, by simp⟩
  | r :: rs, vs, e => by
    simp only [List.mapM_cons, Option.bind_eq_bind, Option.bind_eq_some_iff, Option.pure_def] at e
    obtain ⟨v, e1, vs', e2, e3⟩ := e
    injection e3 with e3; subst e3
    obtain ⟨us, h1, h2, h3⟩ := resV_ok T H e2
    have one : ∃ u, (match r with | .tmp t => (pure (a.tmps.getD t undef) : Sem Value) | .cell ad t => do loadVar t (← asAddr (a.tmps.getD ad undef))).run P w = .ok u w ∧ RV (Bad X S.h c) w S.h c v u := by
      cases r with
      | tmp t => simp at e1; subst e1; exact ⟨_, rfl, H.env t⟩
      | cell ad t =>
        simp only at e1
        obtain ⟨u, k1, k2⟩ := loadV_ok T H.hr (H.env ad) e1
        refine ⟨u, ?_, k2⟩
        show (asAddr (a.tmps.getD ad undef) >>= fun x => loadVar t x).run P w = .ok u w
        rw [Sem.run_bind]
        generalize a.tmps.getD ad undef = av at *
        simp only [Instr.loadAt, Sem.run_bind] at k1
        cases av with
        | pointer p =>
          cases p with
          | some p => simpa [Instr.sureAddr, asAddr] using k1
          | none => simp [Instr.sureAddr] at k1
        | _ => simp [Instr.sureAddr] at k1
    obtain ⟨u, k1, k2⟩ := one
    refine ⟨u :: us, ?_, by simp [h2], fun j x y p q => ?_⟩
    · simp only [List.mapM_cons, Sem.run_bind, k1, Result.andThen_ok, h1, Sem.run_pure]
    · cases j with
      | zero => simp at p q; subst p; subst q; exact k2
      | succ j => exact h3 j x y (by simpa using p) (by simpa using q)

/-- Where loading leaves the heap as it is. -/
theorem ldCell_at [Base] {s k s' k' : Nat} {t : T} {h h' : Hp} {v : V} (e : ldCell s k t h = some (v, h')) (hn : ¬ (s' = s ∧ k' = k)) : h' s' k' = h s' k' := by
  cases t <;> simp [ldCell] at e
  case d => obtain ⟨_, rfl⟩ := e; rfl
  case own => obtain ⟨_, rfl⟩ := e; exact Hp.put_ne _ _ hn
theorem ldCells_at [Base] {s s' k' : Nat} : ∀ {ts : List T} {h h' : Hp} {vs : List V} {k : Nat}, ldCells s k ts h = some (vs, h') → (s' ≠ s ∨ k' < k) → h' s' k' = h s' k'
  | [], h, h', vs, k, e, _ => by simp [ldCells] at e; obtain ⟨_, rfl⟩ := e; rfl
  | t :: ts, h, h', vs, k, e, hn => by
    simp only [ldCells, Option.bind_eq_some_iff, Option.map_eq_some_iff, Prod.exists] at e
    obtain ⟨v, h1, e1, vs', h2, e2, e3⟩ := e
    simp at e3; obtain ⟨_, rfl⟩ := e3
    rw [ldCells_at e2 (hn.imp _root_.id fun h => by omega), ldCell_at e1 (by rintro ⟨rfl, rfl⟩; rcases hn with h | h; exact h rfl; omega)]
theorem ldT_at [Base] {s k s' k' : Nat} {t : T} {h h' : Hp} {v : V} (e : ldT s k t h = some (v, h')) (hn : s' ≠ s) : h' s' k' = h s' k' := by
  cases t <;> simp only [ldT] at e
  case d | own | lend => exact ldCell_at e fun x => hn x.1
  case agg ts =>
    simp only [Option.map_eq_some_iff, Prod.exists] at e
    obtain ⟨vs, h1, e1, e2⟩ := e
    simp at e2; obtain ⟨_, rfl⟩ := e2
    exact ldCells_at e1 (.inl hn)
  case ptr ts =>
    simp only [Option.map_eq_some_iff, Prod.exists] at e
    obtain ⟨vs, h1, e1, e2⟩ := e
    simp at e2; obtain ⟨_, rfl⟩ := e2
    rw [Hp.new, Hp.put_ne _ _ fun x => hn x.1]
    exact ldCells_at e1 (.inl hn)
/-- A parameter that is a pointer is the one box of its name. -/
theorem ldPs_ptr [Base] {n : Nat} : ∀ {ts : List T} {h h' : Hp} {vs : List V} {i j : Nat} {cs : List T} {v : V}, ldPs n i ts h = some (vs, h') → (∀ s, i ≤ s → (h s 0).1 = 0) → ts[j]? = some (.ptr cs) → vs[j]? = some v → v = .ptr (i + j) 0 1 0
  | [], h, h', vs, i, j, cs, v, e, h0, hj, hv => by simp at hj
  | t :: ts, h, h', vs, i, j, cs, v, e, h0, hj, hv => by
    simp only [ldPs, Option.bind_eq_some_iff, Option.map_eq_some_iff, Prod.exists] at e
    obtain ⟨v1, h1, e1, vs', h2, e2, e3⟩ := e
    simp at e3; obtain ⟨rfl, rfl⟩ := e3
    cases j with
    | zero =>
      simp at hj hv; subst hj; subst hv
      simp only [ldT, Option.map_eq_some_iff, Prod.exists] at e1
      obtain ⟨vs1, h3, e4, e5⟩ := e1
      simp at e5; obtain ⟨rfl, rfl⟩ := e5
      simp only [T.nm, T.ns] at e4 ⊢
      rw [ldCells_at e4 (.inr (by omega)), h0 i (Nat.le_refl _)]
      rfl
    | succ j =>
      have hk : ∀ s, i < s → h1 s 0 = h s 0 := fun s hs => by
        cases t with
        | own f sz xs => exact ldCell_at (t := .own f sz xs) e1 (by simp [T.nm])
        | d x => exact ldT_at (t := .d x) e1 (by simp only [T.ns]; omega)
        | lend f sz xs => exact ldT_at (t := .lend f sz xs) e1 (by simp only [T.ns]; omega)
        | agg cs => exact ldT_at (t := .agg cs) e1 (by simp only [T.ns]; omega)
        | ptr cs => exact ldT_at (t := .ptr cs) e1 (by simp only [T.ns]; omega)
      have := ldPs_ptr (j := j) e2 (fun s hs => by rw [hk s (by omega)]; exact h0 s (by omega)) (by simpa using hj) (by simpa using hv)
      rw [this, show i + 1 + j = i + (j + 1) by omega]

theorem ldPs_lend [Base] {n : Nat} : ∀ {ts : List T} {h h' : Hp} {vs : List V} {i j : Nat} {f : Bool} {sz : Nat} {xs : List (List D)} {v : V}, ldPs n i ts h = some (vs, h') → (∀ s, i ≤ s → (h s 0).1 = 0) → ts[j]? = some (.lend f sz xs) → vs[j]? = some v → v = .own (i + j) 0 1
  | [], h, h', vs, i, j, f, sz, xs, v, e, h0, hj, hv => by simp at hj
  | t :: ts, h, h', vs, i, j, f, sz, xs, v, e, h0, hj, hv => by
    simp only [ldPs, Option.bind_eq_some_iff, Option.map_eq_some_iff, Prod.exists] at e
    obtain ⟨v1, h1, e1, vs', h2, e2, e3⟩ := e
    simp at e3; obtain ⟨rfl, rfl⟩ := e3
    cases j with
    | zero =>
      simp at hj hv; subst hj; subst hv
      simp [ldT, ldCell, T.nm, T.ns] at e1
      rw [← e1.1, h0 i (Nat.le_refl _), Nat.zero_add, Nat.add_zero]
    | succ j =>
      have hk : ∀ s, i < s → h1 s 0 = h s 0 := fun s hs => by
        cases t with
        | own f' sz' xs' => exact ldCell_at (t := .own f' sz' xs') e1 (by simp [T.nm])
        | d x => exact ldT_at (t := .d x) e1 (by simp only [T.ns]; omega)
        | lend f' sz' xs' => exact ldT_at (t := .lend f' sz' xs') e1 (by simp only [T.ns]; omega)
        | agg cs => exact ldT_at (t := .agg cs) e1 (by simp only [T.ns]; omega)
        | ptr cs => exact ldT_at (t := .ptr cs) e1 (by simp only [T.ns]; omega)
      have := ldPs_lend (j := j) e2 (fun s hs => by rw [hk s (by omega)]; exact h0 s (by omega)) (by simpa using hj) (by simpa using hv)
      rw [this, show i + 1 + j = i + (j + 1) by omega]

theorem TRs.length {ts : List T} {us : List Value} {A : List Atm} (h : TRs B w ts us A) : ts.length = us.length := by
  induction h with
  | nil => rfl
  | cons _ _ ih => simp [ih]
theorem results_tup (fn : Func) (tmps : Array Value) {us : List Value} (e : (fn.results.toList.mapM (m := Sem) fun r => match r with | .tmp t => pure (tmps.getD t undef) | .cell ad t => do loadVar t (← asAddr (tmps.getD ad undef))).run P w = .ok us w) :
    (results fn tmps).run P w = .ok (tupVal us) w := by
  unfold results
  rw [Sem.run_bind, Array.mapM_eq_mapM_toList, Sem.run_map]; erw [e]
  simp only [Result.andThen_ok]
  cases us with
  | nil => rfl
  | cons u us => cases us <;> rfl
/-! ### Functions -/
/-- Functions that are taken by their contracts. -/
def PrimOk [Base] (P : Program) (prim : Prim) : Prop := ∀ g F, prim g = some F → CallOk P fun g' ts => if g' = g then F ts else none
/-- What the model asks of every function's name. -/
def NamesOk (P : Program) : Prop := P.funcs.size ≤ 1000000 ∧ ∀ (f : Nat) (fn : Func), P.funcs[f]? = some fn → (fn.name == "runtime.NumGoroutine") = false

def DrawsOk [Base] (P : Program) (tb : Tb) (md : Md) (call : CallF) : Prop := ∀ (id : Nat) (ops : Array Oper) (X : Nat → Nat → Prop) (S S' : St) (c : Cz) (a : Act) (w : World) (Q : Exit → Act → World → Prop),
  FR X w S c a → evRegion P tb md call ops true S = some S' → (∀ w' c' a', Go_ X w S c w' S' c' a' → Q .normal a' w') → (Code.region id ops true).wp P Q a w

theorem HR.nil [Base] (hX : ∀ g o, X g o → g < w.heap.size) (hb : Bs w X) (c : Cz) : HR X w Hp.nil c :=
  ⟨hb.sub fun g o _ x => x.elim _root_.id fun ⟨s, k, ob, e, _⟩ => by simp [Hp.nil] at e, fun s k ob e => by simp [Hp.nil] at e, fun s k s' k' ob ob' g o e => by simp [Hp.nil] at e, fun g o ⟨s, k, ob, e, _⟩ => by simp [Hp.nil] at e, hX⟩
theorem Mut_nil {c : Cz} {g o : Nat} : ¬ Mut Hp.nil c g o := fun ⟨s, k, ob, e, _⟩ => by simp [Hp.nil] at e

theorem evF_ok [Base] (T : TbOk P tb) (hN : NamesOk P) {prim : Prim} (hP : PrimOk P prim) (hD : ∀ call, CallOk P call → DrawsOk P tb md call) : ∀ n, CallOk P (evF P tb md prim n)
  | 0 => fun g ts rs ps e => by simp [evF] at e
  | n + 1 => by
    intro f ts rs ps e
    have ih := evF_ok T hN hP hD n
    simp only [evF] at e
    cases hp : prim f with
    | some F =>
      simp only [hp] at e
      exact hP f F hp f ts rs ps (by simpa using e)
    | none =>
      simp only [hp] at e
      cases hf : P.funcs[f]? with
      | none => simp [hf] at e
      | some fn =>
        simp only [hf] at e
        cases hb : fn.body with
        | none => simp [hb] at e
        | some cd =>
          simp only [hb] at e
          split at e
          case isFalse => cases e
          rename_i hlen
          simp only [Option.bind_eq_some_iff, Option.map_eq_some_iff, Prod.exists] at e
          obtain ⟨vs, h0, e1, o, S1, e2, e⟩ := e
          have hfs : f < P.funcs.size := (Array.getElem?_eq_some_iff.1 hf).1
          refine ⟨fun _ => ⟨⟨fn, hf, hN.2 f fn hf, by rw [hb]; rfl⟩, fun X w us A hT dA hAX hX hbs => ?_⟩, fun q => absurd q (Nat.not_le.2 (Nat.lt_of_lt_of_le hfs hN.1))⟩
          -- the callee's frame
          have hAlt : ∀ g o, cellsL A g o → g < w.heap.size := fun g o x => hT.lt x
          have H0 : HR (Or2 X (cellsL A)) w Hp.nil (fun _ _ => undef) := HR.nil (fun g o x => x.elim (hX g o) (hAlt g o)) hbs _
          obtain ⟨c0, sh0, hvl, hrv⟩ := ldPs_ok (L := A) (L' := []) H0 (by simp) dA hAX (hT.less fun g o _ x => x.elim _root_.id fun y => absurd y Mut_nil) e1
          rw [Or2_nil] at sh0 hrv
          have htl := hT.length
          let a0 : Act := { tmps := us.toArray ++ Array.replicate (fn.ntmps - us.toArray.size) undef, defers := [] }
          have F0 : FR X w ⟨fn.ntmps, fun i => vs.getD i (.tup []), h0⟩ c0 a0 := by
            refine ⟨sh0.hr, fun i => ?_, by simp [a0]; omega, rfl⟩
            show RV _ _ _ _ (vs.getD i (.tup [])) ((us.toArray ++ Array.replicate (fn.ntmps - us.toArray.size) undef).getD i undef)
            rw [List.getD_eq_getElem?_getD, Array.getD_eq_getD_getElem?]
            by_cases hi : i < us.length
            · have h1 : vs[i]? = some vs[i] := List.getElem?_eq_getElem (by omega)
              have h2 : us[i]? = some us[i] := List.getElem?_eq_getElem hi
              rw [h1, Array.getElem?_append_left (by simpa using hi)]
              simp only [List.getElem?_toArray, h2, Option.getD_some]
              exact hrv i _ _ h1 h2
            · rw [List.getElem?_eq_none (by omega), Array.getElem?_append_right (by simpa using hi)]
              have : ((Array.replicate (fn.ntmps - us.toArray.size) undef)[i - us.toArray.size]?).getD undef = undef := by
                rw [Array.getElem?_replicate]; split <;> rfl
              rw [this]
              exact .tup rfl (by simp)
          refine calls_of_wp hf hb (code_ok T ih (hD _ ih) n cd X _ S1 o c0 a0 w _ F0 e2 fun w' c' a' g => ?_)
          -- what the cells are
          have mutA : ∀ g' o', Mut h0 c0 g' o' → cellsL A g' o' := fun g' o' x => by
            have hlt := Mut_lt sh0.hr x
            rcases sh0.bad g' o' hlt (.inr x) with (y | y) | y
            · exact absurd y (sh0.hr.nx g' o' x)
            · exact y
            · exact absurd y Mut_nil
          have fin : ∀ (hnex : ∀ i, o ≠ .ex i), (resV tb fn S1).bind (fun rs' => (retTs tb (md f).2 0 fn.resultTypes.toList rs' S1.h).bind fun x => (outPs fn.ntmps ts x.2).map fun ps' => (x.1, ps')) = some (rs, ps) →
              a'.defers = [] ∧ ∃ v, (results fn a'.tmps).run P w' = .ok v w' ∧ ∃ rvs A1 A2, Ending.returned v = .returned (tupVal rvs) ∧ TRs (Or2 X (cellsL (A1 ++ A2))) w' rs rvs A1 ∧ TRs (Or2 X (cellsL (A1 ++ A2))) w' ps (ptrsOf ts us) A2 ∧ Disj (A1 ++ A2) ∧
                (∀ g o, cellsL (A1 ++ A2) g o → ¬ X g o) ∧ Fr (cellsL A) w w' ∧ ∀ g o, g < w.heap.size → cellsL (A1 ++ A2) g o → cellsL A g o := by
            intro _ e
            simp only [Option.bind_eq_some_iff, Option.map_eq_some_iff, Prod.exists] at e
            obtain ⟨rs', er, us', h2, et, ps', ep, e⟩ := e
            simp at e; obtain ⟨rfl, rfl⟩ := e
            obtain ⟨rvs, k1, k2, k3⟩ := resV_ok T g.fr er
            obtain ⟨A1, m1, q1⟩ := retTs_ok g.fr.hr k3 k2 et
            obtain ⟨h3, A2, m2, q2⟩ := outPs_ok m1.sh.hr htl (fun j cs u p q => by
              have hv : ∃ x, vs[j]? = some x := ⟨_, List.getElem?_eq_getElem (by have := (List.getElem?_eq_some_iff.1 q).1; omega)⟩
              obtain ⟨x, hx⟩ := hv
              have := hrv j x u hx q
              rw [ldPs_ptr e1 (fun _ _ => rfl) p hx] at this
              exact m1.sh.rv (g.keep _ _ _ _ _ (Nat.le_add_right _ _) rfl this)) (fun j f sz xs u p q => by
              have hv : ∃ x, vs[j]? = some x := ⟨_, List.getElem?_eq_getElem (by have := (List.getElem?_eq_some_iff.1 q).1; omega)⟩
              obtain ⟨x, hx⟩ := hv
              have := hrv j x u hx q
              rw [ldPs_lend e1 (fun _ _ => rfl) p hx] at this
              exact m1.sh.rv (g.keepO _ _ _ _ (Nat.le_add_right _ _) rfl this)) ep
            have m12 := m1.trans m2
            have hb1 : ∀ g' o', g' < w'.heap.size → Or2 X (cellsL (A1 ++ A2)) g' o' → Bad (Or2 (Or2 X (cellsL A1)) (cellsL A2)) h3 c' g' o' := fun g' o' _ x => by rw [Or2_app]; exact .inl x
            refine ⟨g.fr.defers, _, results_tup fn a'.tmps k1, rvs, A1, A2, rfl, q1.less fun g' o' hg x => m2.sh.bad g' o' hg (hb1 g' o' hg x), q2.less hb1, m12.disj, fun g' o' x => ?_, g.frm.mono fun g' o' _ x => mutA g' o' x, fun g' o' hg x => ?_⟩
            · exact g.fr.hr.nx g' o' (m12.inm g' o' x)
            · exact mutA g' o' (g.mut_ g' o' hg (m12.inm g' o' x))
          cases o with
          | nrm => exact fin (fun _ h => by cases h) e
          | ret => exact fin (fun _ h => by cases h) e
          | ex i => simp at e
end Go.Ev
