/- The evaluator: EvPart. -/
import Derived.Test.YtifomiglajcanaaGreatDoorEvKeep
import Derived.Test.YtifomiglajcanaaGreatDoorEvFoot
set_option linter.unusedSimpArgs false
set_option linter.unusedVariables false
namespace Go.Ev
set_option linter.unusedVariables false
variable {tb : Tb} {md : Md} {call : CallF} {h h1 h2 : Hp}

/-! ### A call by a part of a box: what it leaves of boxes -/
/-- Boxes are the same (of names below k = 1000). -/
def BX (h h1 : Hp) : Prop := ∀ s k, k < 1000 → (h1 s k).1 = (h s k).1 ∧ ∀ cs, (h1 s k).2 = some (.box cs) ↔ (h s k).2 = some (.box cs)
theorem BX.rfl {h : Hp} : BX h h := fun _ _ _ => ⟨Eq.refl _, fun _ => Iff.rfl⟩
theorem BX.trans (a : BX h h1) (b : BX h1 h2) : BX h h2 := fun s k hk => ⟨(b s k hk).1.trans (a s k hk).1, fun cs => ((b s k hk).2 cs).trans ((a s k hk).2 cs)⟩
theorem BX.mod {s k : Nat} {ob : Option Ob} (h0 : ∀ cs, (h s k).2 ≠ some (.box cs)) (h1 : ∀ cs, ob ≠ some (.box cs)) : BX h (h.mod s k ob) := fun s' k' hk => by
  by_cases q : s' = s ∧ k' = k
  · obtain ⟨rfl, rfl⟩ := q
    rw [mod_eq]
    exact ⟨Eq.refl _, fun cs => ⟨fun e => absurd e (h1 cs), fun e => absurd e (h0 cs)⟩⟩
  · rw [mod_ne q]; exact ⟨Eq.refl _, fun _ => Iff.rfl⟩
theorem row_not {s k g : Nat} {ob : Ob} (e : h.get s k g = some ob) (hb : ob.isB = false) : ∀ cs, (h s k).2 ≠ some (.box cs) := fun cs e2 => by
  rw [(get_some e).2] at e2; cases e2; cases hb
theorem outCell_bx {v : V} {t : T} (e : outCell h v = some (t, h1)) : BX h h1 := by
  cases v <;> simp only [outCell] at e
  case d | nl => simp only [Option.some.injEq, Prod.mk.injEq] at e; rw [← e.2]; exact .rfl
  case own s k g =>
    split at e
    · rename_i hg
      simp only [Option.some.injEq, Prod.mk.injEq] at e
      rw [← e.2]; exact .mod (row_not hg rfl) (fun _ e => by cases e)
    · simp only [Option.some.injEq, Prod.mk.injEq] at e; rw [← e.2]; exact .rfl
    · cases e
  all_goals cases e
theorem outCells_bx : ∀ {vs : List V} {h h1 : Hp} {ts : List T}, outCells vs h = some (ts, h1) → BX h h1
  | [], h, h1, ts, e => by simp only [outCells, Option.some.injEq, Prod.mk.injEq] at e; rw [← e.2]; exact .rfl
  | v :: vs, h, h1, ts, e => by
    simp only [outCells, Option.bind_eq_some_iff, Option.map_eq_some_iff, Prod.exists, Prod.mk.injEq] at e
    obtain ⟨t, h2, e1, ts', h3, e2, e3⟩ := e
    obtain ⟨rfl, rfl⟩ := e3
    exact (outCell_bx e1).trans (outCells_bx e2)
theorem argR_bx {cons : Nat} {v : V} {r : A4} (e : argR cons h v = some r) : BX h r.2.1 ∧ ∀ b ∈ r.2.2.2, b.row = true := by
  unfold argR at e
  split at e
  · simp only [Option.map_eq_some_iff, Prod.exists] at e
    obtain ⟨t, a, e, rfl⟩ := e
    exact ⟨.rfl, by simp⟩
  · split at e
    · rename_i ho
      cases e; exact ⟨outCell_bx ho, by simp⟩
    · cases e
  · split at e
    · split at e
      · rename_i hg
        cases e
        exact ⟨.mod (row_not hg rfl) (fun _ e => by cases e), by simp⟩
      · cases e
    · cases e
theorem argT_bx {ty cons : Nat} {v : V} (hv : v.noPtr = true) {r : A4} (e : argT tb ty cons h v = some r) : BX h r.2.1 ∧ ∀ b ∈ r.2.2.2, b.row = true := by
  have hv' : (v.fix (elSz tb ty)).noPtr = true := by cases v <;> exact hv
  unfold argT at e
  generalize v.fix (elSz tb ty) = v at hv' e
  cases v
  case agg cs =>
    simp only [Option.map_eq_some_iff, Prod.exists] at e
    obtain ⟨t, a, e, rfl⟩ := e
    exact ⟨.rfl, by simp⟩
  case ptr => cases hv'
  all_goals exact argR_bx e
theorem argTs_bx {cons : List Nat} : ∀ {vs : List V} {tys : List Nat} {i : Nat} {h : Hp}, vs.all V.noPtr = true → ∀ {r : List T × Hp × List (Nat × Nat) × List Lent}, argTs tb cons i tys vs h = some r → BX h r.2.1 ∧ ∀ b ∈ r.2.2.2, b.row = true
  | [], tys, i, h, _, r, e => by
    have : r = ([], h, [], []) := by cases tys <;> (simp only [argTs, Option.some.injEq] at e; exact e.symm)
    subst this
    exact ⟨.rfl, by simp⟩
  | v :: vs, [], i, h, _, r, e => by simp [argTs] at e
  | v :: vs, ty :: tys, i, h, q, r, e => by
    simp only [List.all_cons, Bool.and_eq_true] at q
    simp only [argTs, Option.bind_eq_some_iff, Option.map_eq_some_iff, Prod.exists] at e
    obtain ⟨t, h1, a, b, e1, ts, h2, a', b', e2, rfl⟩ := e
    obtain ⟨x1, x2⟩ := argT_bx q.1 e1
    obtain ⟨y1, y2⟩ := argTs_bx q.2 e2
    refine ⟨x1.trans y1, fun b hb => ?_⟩
    rcases List.mem_append.1 hb with hb | hb
    · exact x2 b hb
    · exact y2 b hb
theorem ldCells_bx {s : Nat} {us : List T} {k0 : Nat} {vs : List V} (hk : 1000 ≤ k0) (e : ldCells s k0 us h = some (vs, h1)) : BX h h1 := fun s' k hk' => by
  rw [ld_away e s' k (.inr (by omega))]
  exact ⟨Eq.refl _, fun _ => Iff.rfl⟩
theorem backs_bx : ∀ {bs : List Lent} {ts : List T} {h h1 : Hp}, (∀ b ∈ bs, b.row = true) → backs bs ts h = some h1 → BX h h1
  | [], [], h, h1, _, e => by simp only [backs, Option.some.injEq] at e; rw [← e]; exact .rfl
  | [], _ :: _, h, h1, _, e => by simp [backs] at e
  | b :: bs, [], h, h1, _, e => by simp [backs] at e
  | b :: bs, t :: ts, h, h1, q, e => by
    have hb := q b (by simp)
    cases t
    case own f sz xs =>
      simp only [backs, hb, if_true] at e
      split at e
      · rename_i hg
        split at e
        · exact (BX.mod (row_not hg rfl) (fun _ e => by cases e)).trans (backs_bx (fun b hb => q b (by simp [hb])) e)
        · cases e
      · cases e
    case ptr us =>
      simp only [backs, hb] at e
      rw [if_neg (by simp)] at e
      cases e
    all_goals (simp only [backs] at e; cases e)
theorem freezes_bx : ∀ {a : List (Nat × Nat)} {h : Hp}, BX h (freezes a h)
  | [], h => .rfl
  | (s, k) :: a, h => by
    simp only [freezes]
    split
    · rename_i hg
      exact (BX.mod (fun cs e => by rw [hg] at e; cases e) (fun _ e => by cases e)).trans freezes_bx
    · exact freezes_bx
theorem ldT_slot {s k : Nat} {t : T} {v : V} (e : ldT s k t h = some (v, h1)) : ∀ s', s' ≠ s → h1 s' = h s' := fun s' hs => by
  have := ldT_onD (d := s') (N := h s') (h := h) (s := s) (k := k) (t := t) (fun z => hs z.symm)
  have e0 : onD s' (h s') h = h := by funext a b; unfold onD; split <;> simp_all
  rw [e0, e] at this
  simp only [Option.map_some, lift, Option.some.injEq, Prod.mk.injEq] at this
  rw [this.2]; funext b; unfold onD; rw [if_pos (Eq.refl s')]
theorem ldRs_slot {s : Nat} : ∀ {ts : List T} {k : Nat} {h h1 : Hp} {vs : List V}, ldRs s k ts h = some (vs, h1) → ∀ s', s' ≠ s → h1 s' = h s'
  | [], k, h, h1, vs, e, s', hs => by simp only [ldRs, Option.some.injEq, Prod.mk.injEq] at e; rw [e.2]
  | t :: ts, k, h, h1, vs, e, s', hs => by
    simp only [ldRs, Option.bind_eq_some_iff, Option.map_eq_some_iff, Prod.exists, Prod.mk.injEq] at e
    obtain ⟨v, h2, e1, vs', h3, e2, e3⟩ := e
    obtain ⟨rfl, rfl⟩ := e3
    rw [ldRs_slot e2 s' hs, ldT_slot e1 s' hs]
/-- What is left of boxes, in both directions. -/
def BoxE (d : Option Nat) (ks : List Nat) (h h1 : Hp) : Prop := ∀ s k g, k < 1000 → (∀ i, d = some i → s ≠ i) →
  (∀ cs, h.get s k g = some (.box cs) → ∃ cs2, h1.get s k g = some (.box cs2) ∧ cs2.length = cs.length ∧ ∀ o, ks.contains o = true → cs2[o]? = cs[o]?) ∧
  (∀ cs2, h1.get s k g = some (.box cs2) → ∃ cs, h.get s k g = some (.box cs) ∧ cs.length = cs2.length ∧ ∀ o, ks.contains o = true → cs[o]? = cs2[o]?)
theorem over_out {new : List V} : ∀ {cs : List V} {o : Nat}, new.length ≤ o → (over cs 0 new)[o]? = cs[o]? := by
  induction new with
  | nil => intro cs o _; cases cs <;> rfl
  | cons n new ih =>
    intro cs o ho
    simp only [List.length_cons] at ho
    cases cs with
    | nil => rfl
    | cons c cs =>
      obtain ⟨o, rfl⟩ : ∃ o', o = o' + 1 := ⟨o - 1, by omega⟩
      simp only [over, List.getElem?_cons_succ]
      exact ih (by omega)
theorem over_len0 : ∀ {new cs : List V}, (over cs 0 new).length = cs.length
  | [], cs => by cases cs <;> rfl
  | n :: new, [] => rfl
  | n :: new, c :: cs => by simp only [over, List.length_cons, over_len0]
theorem callV_part {g : Nat} {ks : List Nat} {tys : List Nat} {vs : List V} {d : Option Nat} {v : V} (hk : ks ≠ []) (hh : homedAll h vs = true) (ho : outOk tb ks tys vs = true) (e : callV tb md call g tys vs d h = some (v, h1)) : BoxE d ks h h1 := by
  unfold outOk at ho
  split at ho
  · exact absurd (Eq.refl _) hk
  split at ho
  case h_2 => cases ho
  rename_i ty tys s0 k0 g0 rest
  split at ho
  case h_2 => cases ho
  rename_i a b el z hty
  simp only [Bool.and_eq_true, List.all_eq_true] at ho
  obtain ⟨hk0, hks⟩ := ho
  have hk0 : k0 < 1000 := Nat.le_of_ble_eq_true hk0
  simp only [homedAll, Bool.and_eq_true] at hh
  unfold callV at e
  simp only [Option.bind_eq_some_iff, Prod.exists] at e
  obtain ⟨ts, hA, shown, lent, ea, e⟩ := e
  split at e
  case isFalse => cases e
  simp only [Option.bind_eq_some_iff, Prod.exists] at e
  obtain ⟨rs, ps, ec, hB, eb, e⟩ := e
  simp only [argTs, Option.bind_eq_some_iff, Option.map_eq_some_iff, Prod.exists] at ea
  obtain ⟨t, hP, a1, b1, e1, ts', hQ, a2, b2, e2, e3⟩ := ea
  have e3 : t :: ts' = ts ∧ hQ = hA ∧ a1 ++ a2 = shown ∧ b1 ++ b2 = lent := by simpa using e3
  obtain ⟨rfl, rfl, rfl, rfl⟩ := e3
  obtain ⟨x1, x2⟩ := argTs_bx hh.2 e2
  simp only at x1 x2
  -- the first argument
  change (match h.get s0 k0 g0, tb ty with
    | some (.box cs), some ⟨_, _, .pt e, _⟩ => if 0 + szOf tb e ≤ cs.length then (outCells ((cs.drop 0).take (szOf tb e)) h).map fun (r : List T × Hp) => (T.ptr r.1, r.2.mod s0 k0 (some .lent), ([] : List (Nat × Nat)), [(⟨false, s0, k0, g0, 0, szOf tb e, cs⟩ : Lent)]) else none
    | _, _ => none) = some (t, hP, a1, b1) at e1
  rw [hty] at e1
  cases hg : h.get s0 k0 g0 with
  | none => rw [hg] at e1; cases e1
  | some ob =>
    rw [hg] at e1
    cases ob with
    | box cs =>
      simp only at e1
      split at e1
      case isFalse => cases e1
      rename_i hl
      simp only [Option.map_eq_some_iff, Prod.exists, Prod.mk.injEq] at e1
      obtain ⟨us, hO, eo, rfl, rfl, rfl, rfl⟩ := e1
      have bO := outCells_bx eo
      have fz : BX hQ (if (T.sharesL rs || T.sharesL ps) = true then freezes ([] ++ a2) hQ else hQ) := by
        split
        · exact freezes_bx
        · exact .rfl
      generalize hF : (if (T.sharesL rs || T.sharesL ps) = true then freezes ([] ++ a2) hQ else hQ) = hf at fz eb
      -- back
      cases ps with
      | nil => simp [backs] at eb
      | cons p ps =>
        cases p with
        | ptr ws =>
          simp only [List.cons_append, List.nil_append, backs, Nat.add_zero] at eb
          split at eb
          case isFalse => cases eb
          rename_i hwl
          simp only [Option.bind_eq_some_iff, Prod.exists] at eb
          obtain ⟨ws', hL, el', eb⟩ := eb
          split at eb
          case h_2 => cases eb
          rename_i hgl
          have bL := ldCells_bx (by omega) el'
          have bR := backs_bx x2 eb
          have hwl' := ld_len el'
          obtain ⟨hb1, hb2⟩ := get_some hg
          -- what the box is in the end
          have fin : ∀ s k, k < 1000 → (∀ i, d = some i → s ≠ i) → (h1 s k).1 = (hB s k).1 ∧ ∀ cs, (h1 s k).2 = some (.box cs) ↔ (hB s k).2 = some (.box cs) := fun s k hk' hd => by
            cases d with
            | none => simp only [Option.some.injEq, Prod.mk.injEq] at e; rw [← e.2]; exact ⟨Eq.refl _, fun _ => Iff.rfl⟩
            | some i =>
              simp only [Option.map_eq_some_iff, Prod.exists, Prod.mk.injEq] at e
              obtain ⟨vs', hZ, ez, _, rfl⟩ := e
              rw [ldRs_slot ez s (hd i (Eq.refl _))]
              exact ⟨Eq.refl _, fun _ => Iff.rfl⟩
          have mid : ∀ s k, k < 1000 → ¬ (s = s0 ∧ k = k0) → (hB s k).1 = (h s k).1 ∧ ∀ cs, (hB s k).2 = some (.box cs) ↔ (h s k).2 = some (.box cs) := fun s k hk' hn => by
            have c1 := bR s k hk'
            rw [mod_ne hn] at c1
            have c2 := bL s k hk'
            have c3 := fz s k hk'
            have c4 := x1 s k hk'
            rw [mod_ne hn] at c4
            have c5 := bO s k hk'
            exact ⟨c1.1.trans (c2.1.trans (c3.1.trans (c4.1.trans c5.1))), fun cs => (c1.2 cs).trans ((c2.2 cs).trans ((c3.2 cs).trans ((c4.2 cs).trans (c5.2 cs))))⟩
          have own : (hB s0 k0).1 = (h s0 k0).1 ∧ (hB s0 k0).2 = some (.box (over cs 0 ws')) := by
            have c1 := bR s0 k0 hk0
            rw [mod_eq] at c1
            have c2 := bL s0 k0 hk0
            have c3 := fz s0 k0 hk0
            have c4 := x1 s0 k0 hk0
            rw [mod_eq] at c4
            have c5 := bO s0 k0 hk0
            exact ⟨c1.1.trans (c2.1.trans (c3.1.trans (c4.1.trans c5.1))), (c1.2 _).2 (Eq.refl _)⟩
          have kk : ∀ o, ks.contains o = true → (over cs 0 ws')[o]? = cs[o]? := fun o hoc => by
            refine over_out ?_
            have := Nat.le_of_ble_eq_true (hks o (by simpa using hoc))
            rw [hwl', hwl.1]; exact this
          intro s k g' hk' hd
          by_cases q : s = s0 ∧ k = k0
          · obtain ⟨rfl, rfl⟩ := q
            obtain ⟨f1, f2⟩ := fin s k hk' hd
            have gE : (h1 s k).1 = (h s k).1 := f1.trans own.1
            have oE : (h1 s k).2 = some (.box (over cs 0 ws')) := (f2 _).2 own.2
            refine ⟨fun cs' hc => ?_, fun cs' hc => ?_⟩
            · obtain ⟨z1, z2⟩ := get_some hc
              rw [hb2] at z2; cases z2
              exact ⟨_, get_of (gE.trans z1) oE, over_len0, kk⟩
            · obtain ⟨z1, z2⟩ := get_some hc
              rw [oE] at z2; cases z2
              exact ⟨cs, get_of (gE.symm.trans z1) hb2, over_len0.symm, fun o ho => (kk o ho).symm⟩
          · obtain ⟨f1, f2⟩ := fin s k hk' hd
            obtain ⟨m1, m2⟩ := mid s k hk' q
            refine ⟨fun cs' hc => ?_, fun cs' hc => ?_⟩
            · obtain ⟨z1, z2⟩ := get_some hc
              exact ⟨cs', get_of ((f1.trans m1).trans z1) ((f2 _).2 ((m2 _).2 z2)), Eq.refl _, fun _ _ => Eq.refl _⟩
            · obtain ⟨z1, z2⟩ := get_some hc
              exact ⟨cs', get_of ((f1.trans m1).symm.trans z1) ((m2 _).1 ((f2 _).1 z2)), Eq.refl _, fun _ _ => Eq.refl _⟩
        | _ => simp [backs] at eb
    | _ => cases e1
end Go.Ev
