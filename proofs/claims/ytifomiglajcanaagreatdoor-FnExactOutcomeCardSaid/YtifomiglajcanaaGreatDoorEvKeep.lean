/- The evaluator: EvKeep. -/
import Derived.Test.YtifomiglajcanaaGreatDoorEvCall
set_option linter.unusedSimpArgs false
set_option linter.unusedVariables false
namespace Go.Ev
set_option linter.unusedVariables false
variable {P : Program} {tb : Tb} {md : Md} {call : CallF} {X X' M : Nat → Nat → Prop} {w w' : World} {h h' : Hp} {c c' : Cz} {B B' : Nat → Nat → Prop}

/-! ### A call that keeps some cells of the box that is handed on -/
theorem mod_ne {h : Hp} {s k s' k' : Nat} {ob : Option Ob} (q : ¬ (s' = s ∧ k' = k)) : h.mod s k ob s' k' = h s' k' := by
  simp only [Hp.mod, Hp.put_def]; rw [if_neg q]
theorem mod_eq {h : Hp} {s k : Nat} {ob : Option Ob} : h.mod s k ob s k = ((h s k).1, ob) := by
  simp only [Hp.mod, Hp.put_def, and_self, if_true]
theorem mod_get_ne {h : Hp} {s k s' k' g : Nat} {ob : Option Ob} (q : ¬ (s' = s ∧ k' = k)) : (h.mod s k ob).get s' k' g = h.get s' k' g := by
  simp only [Hp.get_def]; rw [mod_ne q]
theorem mod_mod {h : Hp} {s k : Nat} {a b : Option Ob} : (h.mod s k a).mod s k b = h.mod s k b := by
  funext s' k'
  by_cases q : s' = s ∧ k' = k
  · obtain ⟨rfl, rfl⟩ := q; rw [mod_eq, mod_eq, mod_eq]
  · rw [mod_ne q, mod_ne q, mod_ne q]
theorem mod_comm {h : Hp} {s k s' k' : Nat} {a b : Option Ob} (q : ¬ (s' = s ∧ k' = k)) : (h.mod s k a).mod s' k' b = (h.mod s' k' b).mod s k a := by
  funext x y
  by_cases q1 : x = s ∧ y = k
  · obtain ⟨rfl, rfl⟩ := q1
    rw [mod_ne (fun e => q ⟨e.1.symm, e.2.symm⟩), mod_eq, mod_eq, mod_ne (fun e => q ⟨e.1.symm, e.2.symm⟩)]
  · by_cases q2 : x = s' ∧ y = k'
    · obtain ⟨rfl, rfl⟩ := q2
      rw [mod_eq, mod_ne q1, mod_ne q1, mod_eq]
    · rw [mod_ne q2, mod_ne q1, mod_ne q1, mod_ne q2]
theorem Nm.rebox {s k : Nat} {as bs : List V} (e : (h s k).2 = some (.box as)) : Nm h c (h.mod s k (some (.box bs))) c := by
  refine ⟨fun s' k' => ?_, fun s' k' ob hb _ e2 => ?_, fun s' k' ob hb _ e2 => ?_⟩
  · by_cases q : s' = s ∧ k' = k
    · obtain ⟨rfl, rfl⟩ := q; rw [mod_eq]; exact Nat.le_refl _
    · rw [mod_ne q]; exact Nat.le_refl _
  · by_cases q : s' = s ∧ k' = k
    · obtain ⟨rfl, rfl⟩ := q; rw [mod_eq] at e2; cases e2; cases hb
    · rw [mod_ne q] at e2; exact ⟨rfl, ob, hb, e2, rfl⟩
  · by_cases q : s' = s ∧ k' = k
    · obtain ⟨rfl, rfl⟩ := q; exact ⟨rfl, _, rfl, e⟩
    · rw [mod_ne q] at e2; exact ⟨rfl, ob, hb, e2⟩
/-- The cells of a box told otherwise. -/
theorem Mv.rebox [Base] (H : HR X w h c) {s k : Nat} {as bs : List V} (e : (h s k).2 = some (.box as)) (hl : bs.length = as.length)
    (hb : ∀ (a : Addr) (j : Nat) y u, c s k = .pointer (some a) → bs[j]? = some y → w.cell? ⟨a.block, a.off + j, none⟩ = some u → (∀ x, as[j]? = some x → x.cellOk = true ∧ RV (Bad X h c) w h c x u) → y.cellOk = true ∧ RV (Bad X h c) w h c y u) :
    Mv X (fun _ _ => False) w h c w (h.mod s k (some (.box bs))) c := by
  have hN : Nm h c (h.mod s k (some (.box bs))) c := Nm.rebox e
  have hcl : ∀ ob g o, ((h.mod s k (some (.box bs))) s k).2 = some ob → cellsOf ob (c s k) g o → cellsOf (.box as) (c s k) g o := by
    intro ob g o e2 x
    rw [mod_eq] at e2; cases e2
    unfold cellsOf at x ⊢
    split at x <;> simp_all
  refine Mv.make H (Fr.refl _ _) (fun _ _ _ x => x.elim) hN (fun s' k' => ¬ (s' = s ∧ k' = k)) (fun s' k' ob q e2 => ?_) (fun s' k' ob g o q e2 x hg => ?_) (fun s1 k1 s2 k2 ob ob' g o q1 q2 e1 e2 ne => ?_) (fun hbad s' k' ob q e2 => ?_)
  · rw [mod_ne q] at e2; exact ⟨e2, rfl, fun _ _ _ x => x⟩
  · obtain ⟨rfl, rfl⟩ := Classical.not_not.1 q
    have x' := hcl ob g o e2 x
    refine ⟨⟨s', k', _, e, x'⟩, fun s2 k2 ob' q2 e3 y => ?_⟩
    rw [mod_ne q2] at e3
    exact H.sep s' k' s2 k2 _ ob' g o e e3 (fun z => q2 ⟨z.1.symm, z.2.symm⟩) x' y
  · exact absurd ⟨(Classical.not_not.1 q1).1.trans (Classical.not_not.1 q2).1.symm, (Classical.not_not.1 q1).2.trans (Classical.not_not.1 q2).2.symm⟩ ne
  · obtain ⟨rfl, rfl⟩ := Classical.not_not.1 q
    rw [mod_eq] at e2; cases e2
    obtain ⟨a, ha, hs, hj⟩ := H.ok _ _ _ e
    refine ⟨a, ha, hs, fun j y hy => ?_⟩
    have hjl : j < as.length := by have := (List.getElem?_eq_some_iff.1 hy).1; omega
    obtain ⟨h1, u, h2, h3, h4, h5⟩ := hj j _ (List.getElem?_eq_getElem hjl)
    obtain ⟨k1, k2⟩ := hb a j y u ha hy h2 fun x hx => by
      rw [List.getElem?_eq_getElem hjl] at hx; cases hx; exact ⟨h1, h5⟩
    exact ⟨k1, u, h2, h3, h4, k2.keep (fun _ _ _ _ => rfl) hbad hN⟩
/-- Values in the places of the kept cells. -/
def putV (ks : List Nat) (ρ : Nat → Value) : Nat → List V → List V
  | _, [] => []
  | i, c :: cs => (bif ks.contains i then .d (.p (ρ i)) else c) :: putV ks ρ (i + 1) cs
theorem putV_len (ks : List Nat) (ρ : Nat → Value) : ∀ (i : Nat) (cs : List V), (putV ks ρ i cs).length = cs.length
  | _, [] => rfl
  | i, c :: cs => by simp [putV, putV_len ks ρ (i + 1) cs]
theorem putV_at (ks : List Nat) (ρ : Nat → Value) : ∀ (i : Nat) (cs : List V) (j : Nat), (putV ks ρ i cs)[j]? = (cs[j]?).map fun c => bif ks.contains (i + j) then .d (.p (ρ (i + j))) else c
  | _, [], j => by simp [putV]
  | i, c :: cs, 0 => by simp [putV]
  | i, c :: cs, j + 1 => by
    simp only [putV, List.getElem?_cons_succ]
    rw [putV_at ks ρ (i + 1) cs j, show i + 1 + j = i + (j + 1) by omega]
theorem unkeep_at (ks : List Nat) : ∀ (i : Nat) (cs vs : List V), vs.length = cs.length → ∀ j : Nat, (unkeep ks i cs vs)[j]? = (vs[j]?).bind fun v => (cs[j]?).map fun c => bif ks.contains (i + j) then c else v
  | _, [], [], _, j => by simp [unkeep]
  | _, [], _ :: _, h, j => by simp at h
  | _, _ :: _, [], h, j => by simp at h
  | i, c :: cs, v :: vs, h, 0 => by simp [unkeep]
  | i, c :: cs, v :: vs, h, j + 1 => by
    simp only [unkeep, List.getElem?_cons_succ]
    rw [unkeep_at ks (i + 1) cs vs (by simpa using h) j, show i + 1 + j = i + (j + 1) by omega]
theorem unkeep_len (ks : List Nat) : ∀ (i : Nat) (cs vs : List V), vs.length = cs.length → (unkeep ks i cs vs).length = cs.length
  | _, [], [], _ => rfl
  | _, [], _ :: _, h => by simp at h
  | _, _ :: _, [], h => by simp at h
  | i, c :: cs, v :: vs, h => by simp [unkeep, unkeep_len ks (i + 1) cs vs (by simpa using h)]
/-- Cells moved out, tokens or values standing in the kept ones' places. -/
theorem out_put {ks : List Nat} {ρ : Nat → Value} (hρ : ∀ i, ks.contains i = false → ρ i = tokV) {s k : Nat} {zs : List V} : ∀ {cs : List V} {i : Nat} {h h1 : Hp} {ts : List T} {as : List V}, (h s k).2 = some (.box as) → outCells (keepT ks i cs) h = some (ts, h1) →
    outCells (putV ks ρ i cs) (h.mod s k (some (.box zs))) = some (putT ρ i ts, h1.mod s k (some (.box zs))) ∧ (h1 s k).2 = some (.box as) ∧ (h1 s k).1 = (h s k).1
  | [], i, h, h1, ts, as, hb, e => by
    simp only [keepT, outCells, Option.some.injEq, Prod.mk.injEq] at e
    obtain ⟨rfl, rfl⟩ := e
    exact ⟨rfl, hb, rfl⟩
  | c :: cs, i, h, h1, ts, as, hb, e => by
    simp only [keepT, outCells, Option.bind_eq_some_iff, Option.map_eq_some_iff, Prod.exists, Prod.mk.injEq] at e
    obtain ⟨t, h2, e1, ts', h3, e2, e3⟩ := e
    obtain ⟨rfl, rfl⟩ := e3
    have step : outCell (h.mod s k (some (.box zs))) (bif ks.contains i then .d (.p (ρ i)) else c) = some ((bif t.isTok then .d (.p (ρ i)) else t), h2.mod s k (some (.box zs))) ∧ (h2 s k).2 = some (.box as) ∧ (h2 s k).1 = (h s k).1 := by
      cases hk : ks.contains i with
      | true =>
        rw [hk] at e1
        simp only [cond_true, outCell, Option.some.injEq, Prod.mk.injEq] at e1 ⊢
        obtain ⟨rfl, rfl⟩ := e1
        exact ⟨⟨rfl, rfl⟩, hb, rfl⟩
      | false =>
        rw [hk] at e1
        simp only [cond_false] at e1 ⊢
        have htok : (bif t.isTok then T.d (.p (ρ i)) else t) = t := by
          rw [hρ i hk]
          unfold T.isTok
          split
          · rfl
          · rfl
        rw [htok]
        cases c <;> simp only [outCell] at e1 ⊢
        case d | nl => simp only [Option.some.injEq, Prod.mk.injEq] at e1 ⊢; obtain ⟨rfl, rfl⟩ := e1; exact ⟨⟨rfl, rfl⟩, hb, rfl⟩
        case own s' k' g =>
          have ne : ∀ ob, h.get s' k' g = some ob → ob.isB = false → ¬ (s' = s ∧ k' = k) := fun ob q q2 z => by
            obtain ⟨rfl, rfl⟩ := z
            rw [(get_some q).2] at hb
            cases hb; cases q2
          cases hg : h.get s' k' g with
          | none => rw [hg] at e1; cases e1
          | some ob =>
            cases ob with
            | row own f sz xs =>
              have n := ne _ hg rfl
              rw [mod_get_ne n, hg]
              rw [hg] at e1
              cases own with
              | true =>
                simp only [Option.some.injEq, Prod.mk.injEq] at e1 ⊢
                obtain ⟨rfl, rfl⟩ := e1
                exact ⟨⟨rfl, mod_comm n⟩, by rw [mod_ne (fun z => n ⟨z.1.symm, z.2.symm⟩)]; exact hb, by rw [mod_ne (fun z => n ⟨z.1.symm, z.2.symm⟩)]⟩
              | false =>
                simp only [Option.some.injEq, Prod.mk.injEq] at e1 ⊢
                obtain ⟨rfl, rfl⟩ := e1
                exact ⟨⟨rfl, rfl⟩, hb, rfl⟩
            | box _ => rw [hg] at e1; cases e1
            | lent => rw [hg] at e1; cases e1
            | lentR _ _ => rw [hg] at e1; cases e1
        all_goals cases e1
    obtain ⟨q1, q2, q3⟩ := step
    obtain ⟨r1, r2, r3⟩ := out_put hρ (zs := zs) (i := i + 1) q2 e2
    refine ⟨?_, r2, r3.trans q3⟩
    simp only [putV, outCells, q1, Option.bind_some, r1, Option.map_some, putT]
theorem ld_put {ks : List Nat} {ρ : Nat → Value} (hρ : ∀ i, ks.contains i = false → ρ i = tokV) {s : Nat} : ∀ {us : List T} {i k : Nat} {h h1 : Hp} {vs : List V}, toksOk ks i us = true → ldCells s k us h = some (vs, h1) → ldCells s k (putT ρ i us) h = some (putV ks ρ i vs, h1)
  | [], i, k, h, h1, vs, hk, e => by
    simp only [ldCells, Option.some.injEq, Prod.mk.injEq] at e
    obtain ⟨rfl, rfl⟩ := e
    rfl
  | t :: us, i, k, h, h1, vs, hk, e => by
    simp only [toksOk, Bool.and_eq_true, Bool.or_eq_true, Bool.not_eq_true'] at hk
    simp only [ldCells, Option.bind_eq_some_iff, Option.map_eq_some_iff, Prod.exists, Prod.mk.injEq] at e
    obtain ⟨v, h2, e1, vs', h3, e2, e3⟩ := e
    obtain ⟨rfl, rfl⟩ := e3
    have r := ld_put hρ (i := i + 1) hk.2 e2
    have step : ldCell s k (bif t.isTok then .d (.p (ρ i)) else t) h = some ((bif ks.contains i then .d (.p (ρ i)) else v), h2) := by
      cases hc : ks.contains i with
      | true =>
        have ht : t.isTok = true := by
          rcases hk.1 with q | q
          · rw [hc] at q; cases q
          · exact q
        have : t = .d (.p tokV) := by
          unfold T.isTok at ht
          split at ht
          · rfl
          · cases ht
        subst this
        simp only [ldCell, Option.some.injEq, Prod.mk.injEq] at e1
        obtain ⟨rfl, rfl⟩ := e1
        rfl
      | false =>
        have htok : (bif t.isTok then T.d (.p (ρ i)) else t) = t := by
          rw [hρ i hc]
          unfold T.isTok
          split
          · rfl
          · rfl
        rw [htok]; exact e1
    simp only [putT, ldCells, step, Option.bind_some, r, Option.map_some, putV]
theorem ld_len {s : Nat} : ∀ {us : List T} {k : Nat} {h h1 : Hp} {vs : List V}, ldCells s k us h = some (vs, h1) → vs.length = us.length
  | [], k, h, h1, vs, e => by
    simp only [ldCells, Option.some.injEq, Prod.mk.injEq] at e
    obtain ⟨rfl, rfl⟩ := e
    rfl
  | t :: us, k, h, h1, vs, e => by
    simp only [ldCells, Option.bind_eq_some_iff, Option.map_eq_some_iff, Prod.exists, Prod.mk.injEq] at e
    obtain ⟨v, h2, e1, vs', h3, e2, e3⟩ := e
    obtain ⟨rfl, rfl⟩ := e3
    simp [ld_len e2]
theorem toTs_eq : ∀ {vs : List V} {ts : List T}, toTs vs = some ts → (∀ v ∈ vs, ∃ x, v = .d (.p x)) ∧ ts = vs.map fun v => match v with | .d x => .d x | _ => .d (.p tokV)
  | [], ts, e => by simp only [toTs, Option.some.injEq] at e; subst e; exact ⟨by simp, rfl⟩
  | v :: vs, ts, e => by
    simp only [toTs, Option.bind_eq_some_iff, Option.map_eq_some_iff] at e
    obtain ⟨t, e1, ts', e2, rfl⟩ := e
    obtain ⟨h1, rfl⟩ := toTs_eq e2
    unfold V.toT1 at e1
    split at e1
    · cases e1
      exact ⟨fun y hy => by rcases List.mem_cons.1 hy with rfl | hy; exact ⟨_, rfl⟩; exact h1 y hy, rfl⟩
    · cases e1
theorem args_sc {tb' : Tb} {h : Hp} : ∀ {vs : List V} {ts : List T} (i : Nat) (n : Nat), toTs vs = some ts → vs.length ≤ n → argTs tb' [] i (List.replicate n 0) vs h = some (ts, h, [], [])
  | [], ts, i, n, e, _ => by simp only [toTs, Option.some.injEq] at e; subst e; cases n <;> rfl
  | v :: vs, ts, i, 0, e, hl => by simp at hl
  | v :: vs, ts, i, n + 1, e, hl => by
    simp only [toTs, Option.bind_eq_some_iff, Option.map_eq_some_iff] at e
    obtain ⟨t, e1, ts', e2, rfl⟩ := e
    have ih := args_sc (tb' := tb') (h := h) (i + 1) n e2 (by simpa using hl)
    unfold V.toT1 at e1
    split at e1
    · cases e1
      simp only [List.replicate_succ, argTs]
      have : argT tb' 0 (([] : List Nat).getD i 0) h (V.d (.p _)) = some (T.d (.p ‹Value›), h, [], []) := rfl
      rw [this]
      simp only [Option.bind_some, ih, Option.map_some, List.append_nil]
    · cases e1
theorem toVs_ld {s : Nat} {h : Hp} : ∀ {ts : List T} {vs : List V} (k : Nat), toVs ts = some vs → ldCells s k ts h = some (vs, h)
  | [], vs, k, e => by simp only [toVs, Option.some.injEq] at e; subst e; rfl
  | t :: ts, vs, k, e => by
    simp only [toVs, Option.bind_eq_some_iff, Option.map_eq_some_iff] at e
    obtain ⟨v, e1, vs', e2, rfl⟩ := e
    have ih := toVs_ld (s := s) (h := h) (k + 1) e2
    unfold T.toV1 at e1
    split at e1
    · cases e1
      simp only [ldCells, ldCell, Option.bind_some, ih, Option.map_some]
    · cases e1
theorem toV_ld {d k : Nat} {h : Hp} {t : T} {v : V} (e : t.toV = some v) : ldT d k t h = some (v, h) := by
  unfold T.toV at e
  split at e
  · simp only [Option.map_eq_some_iff] at e
    obtain ⟨vs, e, rfl⟩ := e
    simp only [ldT, toVs_ld _ e, Option.map_some]
  · unfold T.toV1 at e
    split at e
    · cases e; rfl
    · cases e
theorem ld_away {s : Nat} : ∀ {us : List T} {k0 : Nat} {h h1 : Hp} {vs : List V}, ldCells s k0 us h = some (vs, h1) → ∀ s' k, s' ≠ s ∨ k < k0 → h1 s' k = h s' k
  | [], k0, h, h1, vs, e, s', k, hk => by
    simp only [ldCells, Option.some.injEq, Prod.mk.injEq] at e
    obtain ⟨rfl, rfl⟩ := e
    rfl
  | t :: us, k0, h, h1, vs, e, s', k, hk => by
    simp only [ldCells, Option.bind_eq_some_iff, Option.map_eq_some_iff, Prod.exists, Prod.mk.injEq] at e
    obtain ⟨v, h2, e1, vs', h3, e2, e3⟩ := e
    obtain ⟨rfl, rfl⟩ := e3
    rw [ld_away e2 s' k (by omega)]
    cases t <;> simp only [ldCell] at e1
    case d => simp only [Option.some.injEq, Prod.mk.injEq] at e1; rw [← e1.2]
    case own =>
      simp only [Option.some.injEq, Prod.mk.injEq] at e1
      rw [← e1.2]
      simp only [Hp.new, Hp.put_def]
      rw [if_neg (by omega)]
    all_goals cases e1
theorem out_gen : ∀ {vs : List V} {h h1 : Hp} {ts : List T}, outCells vs h = some (ts, h1) → ∀ s k, (h1 s k).1 = (h s k).1
  | [], h, h1, ts, e, s, k => by
    simp only [outCells, Option.some.injEq, Prod.mk.injEq] at e
    rw [e.2]
  | v :: vs, h, h1, ts, e, s, k => by
    simp only [outCells, Option.bind_eq_some_iff, Option.map_eq_some_iff, Prod.exists, Prod.mk.injEq] at e
    obtain ⟨t, h2, e1, ts', h3, e2, e3⟩ := e
    obtain ⟨rfl, rfl⟩ := e3
    rw [out_gen e2 s k]
    cases v <;> simp only [outCell] at e1
    case d | nl => simp only [Option.some.injEq, Prod.mk.injEq] at e1; rw [← e1.2]
    case own s' k' g =>
      split at e1
      · simp only [Option.some.injEq, Prod.mk.injEq] at e1
        rw [← e1.2]
        by_cases q : s = s' ∧ k = k'
        · obtain ⟨rfl, rfl⟩ := q; rw [mod_eq]
        · rw [mod_ne q]
      · simp only [Option.some.injEq, Prod.mk.injEq] at e1; rw [← e1.2]
      · cases e1
    all_goals cases e1
theorem out_box {s k : Nat} {as : List V} : ∀ {vs : List V} {h h1 : Hp} {ts : List T}, outCells vs h = some (ts, h1) → (h s k).2 = some (.box as) → (h1 s k).2 = some (.box as)
  | [], h, h1, ts, e, hb => by
    simp only [outCells, Option.some.injEq, Prod.mk.injEq] at e
    rw [← e.2]; exact hb
  | v :: vs, h, h1, ts, e, hb => by
    simp only [outCells, Option.bind_eq_some_iff, Option.map_eq_some_iff, Prod.exists, Prod.mk.injEq] at e
    obtain ⟨t, h2, e1, ts', h3, e2, e3⟩ := e
    obtain ⟨rfl, rfl⟩ := e3
    refine out_box e2 ?_
    cases v <;> simp only [outCell] at e1
    case d | nl => simp only [Option.some.injEq, Prod.mk.injEq] at e1; rw [← e1.2]; exact hb
    case own s' k' g =>
      split at e1
      · rename_i hg
        simp only [Option.some.injEq, Prod.mk.injEq] at e1
        rw [← e1.2, mod_ne]
        · exact hb
        · rintro ⟨rfl, rfl⟩
          rw [(get_some hg).2] at hb; cases hb
      · simp only [Option.some.injEq, Prod.mk.injEq] at e1; rw [← e1.2]; exact hb
      · cases e1
    all_goals cases e1
/-- Boxes behind such a call: as they were, as far as they are kept. -/
theorem keepV_box {g : Nat} {ks : List Nat} {vs : List V} {d : Option Nat} {v : V} {h1 : Hp} (e : keepV call g ks vs d h = some (v, h1)) : ∀ s k g' cs, k < 1000 → h.get s k g' = some (.box cs) → ∃ cs2, h1.get s k g' = some (.box cs2) ∧ cs2.length = cs.length ∧ ∀ o, ks.contains o = true → cs2[o]? = cs[o]? := by
  unfold keepV at e
  split at e
  case h_2 => cases e
  rename_i s0 k0 gg rest d
  split at e
  case h_2 => cases e
  rename_i cs0 hbox
  simp only [Option.bind_eq_some_iff, Prod.exists] at e
  obtain ⟨rts, hrt, ts, h2, ho, os, ps, hcall, e⟩ := e
  split at e
  case h_2 => cases e
  rename_i o us'
  split at e
  case isFalse => cases e
  rename_i hcond
  simp only [Option.bind_eq_some_iff, Prod.exists, Option.some.injEq, Prod.mk.injEq] at e
  obtain ⟨v', hv', ws, h3, hld, rfl, rfl⟩ := e
  intro s k g' cs hk hb
  obtain ⟨b1, b2⟩ := get_some hb
  have g2 := out_gen ho s k
  have o2 := out_box ho b2
  have hwl := ld_len hld
  by_cases q : s = s0 ∧ k = k0
  · obtain ⟨rfl, rfl⟩ := q
    have ec : cs = cs0 := by
      rw [(get_some hbox).2] at b2; cases b2; rfl
    subst ec
    refine ⟨_, get_of (by rw [mod_eq, ld_away hld _ _ (.inr (by omega)), mod_eq]; show (h2 s k).1 = g'; rw [g2, b1]) (by rw [mod_eq]), unkeep_len _ _ _ _ (by rw [hwl]; exact hcond.1), fun o' ho' => ?_⟩
    rw [unkeep_at _ _ _ _ (by rw [hwl]; exact hcond.1), Nat.zero_add, ho']
    simp only [cond_true]
    by_cases hl : o' < cs.length
    · rw [List.getElem?_eq_getElem (show o' < ws.length by rw [hwl, hcond.1]; exact hl), List.getElem?_eq_getElem hl]; rfl
    · rw [List.getElem?_eq_none (show cs.length ≤ o' by omega)]
      cases ws[o']? <;> rfl
  · refine ⟨cs, get_of ?_ ?_, rfl, fun _ _ => rfl⟩
    · rw [mod_ne q, ld_away hld _ _ (.inr (by omega)), mod_ne q, g2, b1]
    · rw [mod_ne q, ld_away hld _ _ (.inr (by omega)), mod_ne q, o2]
theorem putT_len (ρ : Nat → Value) : ∀ (i : Nat) (ts : List T), (putT ρ i ts).length = ts.length
  | _, [] => rfl
  | i, t :: ts => by simp [putT, putT_len ρ (i + 1) ts]
open Classical in
theorem keepV_ok [Base] (hC : CallOk P call) {g : Nat} (hg : g < 1000000) (H : HR X w h c) {vs : List V} {us : List Value} (hr : ∀ (j : Nat) x u, vs[j]? = some x → us[j]? = some u → RV (Bad X h c) w h c x u) (hl : vs.length = us.length) {ks : List Nat} {d : Option Nat} {v : V}
    (e : keepV call g ks vs d h = some (v, h')) : Enters P g ∧ Calls P g us.toArray w fun e w' => ∃ u c', e = .returned u ∧ Mv X (Mut h c) w h c w' h' c' ∧ RV (Bad X h' c') w' h' c' v u := by
  unfold keepV at e
  split at e
  case h_2 => cases e
  rename_i s k gg rest d
  split at e
  case h_2 => cases e
  rename_i cs hbox
  simp only [Option.bind_eq_some_iff, Prod.exists] at e
  obtain ⟨rts, hrt, ts, h1, ho, os, ps, hcall, e⟩ := e
  split at e
  case h_2 => cases e
  rename_i o us'
  split at e
  case isFalse => cases e
  rename_i hcond
  simp only [Option.bind_eq_some_iff, Prod.exists, Option.some.injEq, Prod.mk.injEq] at e
  obtain ⟨v', hv', ws, h2, hld, rfl, rfl⟩ := e
  obtain ⟨hg1, hb⟩ := get_some hbox
  obtain ⟨a, hca, _, hcells⟩ := H.ok _ _ _ hb
  let ρ : Nat → Value := fun i => if ks.contains i = true ∧ i < cs.length then (w.cell? ⟨a.block, a.off + i, none⟩).getD tokV else tokV
  have hρ : ∀ i, ks.contains i = false → ρ i = tokV := fun i q => by
    show (if ks.contains i = true ∧ i < cs.length then _ else _) = _
    rw [if_neg (by rw [q]; simp)]
  have hρ1 : ∀ i u, ks.contains i = true → i < cs.length → w.cell? ⟨a.block, a.off + i, none⟩ = some u → ρ i = u := fun i u q ql hu => by
    show (if ks.contains i = true ∧ i < cs.length then _ else _) = _
    rw [if_pos ⟨q, ql⟩, hu]; rfl
  have hone : ∀ i, (ρ i).oneCell' = true := fun i => by
    show (if ks.contains i = true ∧ i < cs.length then (w.cell? ⟨a.block, a.off + i, none⟩).getD tokV else tokV).oneCell' = true
    split
    · rename_i q
      obtain ⟨_, u, hu, _, h4, _⟩ := hcells i _ (List.getElem?_eq_getElem q.2)
      rw [hu]; exact h4
    · rfl
  have m1 : Mv X (fun _ _ => False) w h c w (h.mod s k (some (.box (putV ks ρ 0 cs)))) c := by
    refine Mv.rebox H hb (putV_len ..) fun a' j y u ha' hy hu hx => ?_
    rw [hca] at ha'
    cases ha'
    rw [putV_at, Nat.zero_add] at hy
    simp only [Option.map_eq_some_iff] at hy
    obtain ⟨c0, hc0, rfl⟩ := hy
    cases hk : ks.contains j with
    | true =>
      rw [cond_true, hρ1 j u hk (List.getElem?_eq_some_iff.1 hc0).1 hu]
      obtain ⟨_, u', hu', _, h4, _⟩ := hcells j _ hc0
      rw [hu] at hu'; cases hu'
      exact ⟨rfl, .d (.p _ h4)⟩
    | false => rw [cond_false]; exact hx _ hc0
  generalize hzs : putV ks ρ 0 cs = zs at m1
  have hzl : zs.length = cs.length := by rw [← hzs, putV_len]
  obtain ⟨o1, o2, o3⟩ := out_put hρ (zs := zs) hb ho
  rw [hzs] at o1
  have hwl := ld_len hld
  have l2 := ld_put hρ hcond.2 hld
  have haway := ld_away hld s k (.inr (by omega))
  let tb' : Tb := fun t => if t = 0 then some ⟨1, 8, .sc, []⟩ else if t = 1 then some ⟨1, 8, .pt 2, []⟩ else some ⟨cs.length, 0, .sc, []⟩
  let md' : Md := fun _ => ([], [])
  let call' : CallF := fun g' ts' => if g' = g ∧ ts' = .ptr (putT ρ 0 ts) :: rts then some ([o], [.ptr (putT ρ 0 us')]) else none
  have hC' : CallOk P call' := by
    intro g' ts' rs' ps' e
    change (if g' = g ∧ ts' = .ptr (putT ρ 0 ts) :: rts then some ([o], [.ptr (putT ρ 0 us')]) else none) = some (rs', ps') at e
    split at e
    case isFalse => cases e
    rename_i q
    obtain ⟨rfl, rfl⟩ := q
    cases e
    refine ⟨fun _ => ?_, fun z => absurd z (Nat.not_le.2 hg)⟩
    obtain ⟨z1, z2⟩ := (hC _ _ _ _ hcall).2 (Nat.le_add_left _ _)
    have z3 := z2 ρ hone
    rw [Nat.add_sub_cancel] at z1 z3
    exact ⟨z1, z3⟩
  have ea : argTs tb' (md' g).1 0 (1 :: List.replicate rest.length 0) (.ptr s k gg 0 :: rest) (h.mod s k (some (.box zs))) = some (.ptr (putT ρ 0 ts) :: rts, h1.mod s k (some .lent), [], [⟨false, s, k, gg, 0, cs.length, zs⟩]) := by
    have e1 : argT tb' 1 (([] : List Nat).getD 0 0) (h.mod s k (some (.box zs))) (.ptr s k gg 0) = some (.ptr (putT ρ 0 ts), h1.mod s k (some .lent), [], [⟨false, s, k, gg, 0, cs.length, zs⟩]) := by
      have g1 : (h.mod s k (some (.box zs))).get s k gg = some (.box zs) := get_of (by rw [mod_eq]; exact hg1) (by rw [mod_eq])
      show (match (h.mod s k (some (.box zs))).get s k gg, tb' 1 with
        | some (.box cs), some ⟨_, _, .pt e, _⟩ => if 0 + szOf tb' e ≤ cs.length then (outCells ((cs.drop 0).take (szOf tb' e)) (h.mod s k (some (.box zs)))).map fun (r : List T × Hp) => (T.ptr r.1, r.2.mod s k (some .lent), [], [(⟨false, s, k, gg, 0, szOf tb' e, cs⟩ : Lent)]) else none
        | _, _ => none) = _
      rw [g1]
      show (if 0 + cs.length ≤ zs.length then (outCells ((zs.drop 0).take cs.length) (h.mod s k (some (.box zs)))).map _ else none) = _
      rw [if_pos (by omega), List.drop_zero, List.take_of_length_le (by omega), o1, Option.map_some, mod_mod]
      rfl
    show (argT tb' 1 (([] : List Nat).getD 0 0) _ _).bind _ = _
    rw [e1, Option.bind_some]
    show (argTs tb' [] 1 (List.replicate rest.length 0) rest _).map _ = _
    rw [args_sc 1 _ hrt (Nat.le_refl _), Option.map_some]
    rfl
  have eb : backs [⟨false, s, k, gg, 0, cs.length, zs⟩] [.ptr (putT ρ 0 us')] (h1.mod s k (some .lent)) = some (h2.mod s k (some (.box (putV ks ρ 0 ws)))) := by
    have g2 : h2.get s k gg = some .lent := get_of (by rw [haway, mod_eq]; show (h1 s k).1 = gg; rw [o3]; exact hg1) (by rw [haway, mod_eq])
    simp only [backs]
    rw [if_pos ⟨by rw [putT_len]; exact hcond.1, trivial⟩, Nat.add_zero, l2, Option.bind_some]
    simp only [g2]
    rw [over_eq zs 0 _ (by rw [putV_len, hwl, hzl]; omega)]
    rw [List.take_zero, List.nil_append, List.drop_eq_nil_of_le (by rw [putV_len, hwl, hzl]; omega), List.append_nil]
  have e' : callV tb' md' call' g (1 :: List.replicate rest.length 0) (.ptr s k gg 0 :: rest) (some d) (h.mod s k (some (.box zs))) = some (v', h2.mod s k (some (.box (putV ks ρ 0 ws)))) := by
    unfold callV
    rw [ea, Option.bind_some]
    simp only [List.all_nil, if_true]
    have ec : call' g (.ptr (putT ρ 0 ts) :: rts) = some ([o], [.ptr (putT ρ 0 us')]) := if_pos ⟨rfl, rfl⟩
    rw [ec, Option.bind_some]
    simp only [freezes, ite_self]
    rw [eb, Option.bind_some]
    simp only [ldRs, toV_ld hv', Option.bind_some, Option.map_some]
    rfl
  obtain ⟨ent, calls⟩ := callV_ok hC' (Nat.not_le.2 hg) m1.hr (fun j x u p q => m1.rv (hr j x u p q)) hl e'
  refine ⟨ent, calls.mono ?_⟩
  rintro en w' ⟨u, c', rfl, m, r⟩
  have m2 : Mv X (fun _ _ => False) w' (h2.mod s k (some (.box (putV ks ρ 0 ws)))) c' w' (h2.mod s k (some (.box (unkeep ks 0 cs ws)))) c' := by
    have := Mv.rebox (bs := unkeep ks 0 cs ws) m.hr (s := s) (k := k) (as := putV ks ρ 0 ws) (by rw [mod_eq]) (by rw [unkeep_len _ _ _ _ (by rw [hwl]; exact hcond.1), putV_len, hwl]; exact hcond.1.symm) fun a' j y u0 ha' hy hu hx => by
      rw [unkeep_at _ _ _ _ (by rw [hwl]; exact hcond.1), Nat.zero_add] at hy
      simp only [Option.bind_eq_some_iff, Option.map_eq_some_iff] at hy
      obtain ⟨w0, hw0, c0, hc0, rfl⟩ := hy
      have hx' := hx (bif ks.contains j then .d (.p (ρ j)) else w0) (by rw [putV_at, Nat.zero_add, hw0]; rfl)
      cases hk : ks.contains j with
      | true =>
        rw [hk, cond_true] at hx'
        obtain ⟨_, hx'⟩ := hx'
        have hu0 : u0 = ρ j := by
          cases hx' with
          | d hx' => cases hx'; rfl
        obtain ⟨k1, u1, k2, _, _, k5⟩ := hcells j _ hc0
        rw [cond_true, hu0, hρ1 j u1 hk (List.getElem?_eq_some_iff.1 hc0).1 k2]
        exact ⟨k1, m.rv (m1.rv k5)⟩
      | false => rw [hk, cond_false] at hx'; rw [cond_false]; exact hx'
    rwa [mod_mod] at this
  exact ⟨u, c', rfl, (m1.andThen m).andThen m2, m2.rv r⟩
end Go.Ev
