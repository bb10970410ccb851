/- The evaluator: EvHeap. -/
import Derived.Test.YtifomiglajcanaaGreatDoorEvRel
set_option linter.unusedSimpArgs false
set_option linter.unusedVariables false
namespace Go.Ev
set_option linter.unusedVariables false
variable {X M : Nat → Nat → Prop} {w w' : World} {h h' : Hp} {c c' : Cz}

theorem heap_lt {w : World} {g : Nat} {ob : Obj} (h : w.heap[g]? = some ob) : g < w.heap.size := (Array.getElem?_eq_some_iff.1 h).1
theorem cellsOf_lt [Base] {B : Nat → Nat → Prop} {ob : Ob} {v : Value} (r : ObR B w h c ob v) {g o : Nat} (hc : cellsOf ob v g o) : g < w.heap.size := by
  cases ob with
  | row own f sz xs =>
    cases own with
    | false => exact hc.elim
    | true =>
      obtain ⟨us, ⟨_, hv⟩, _⟩ := r
      rcases hv with ⟨rfl, _⟩ | ⟨g', cap, cur, e, rfl, hg, _⟩
      · exact hc.elim
      · have : g' = g := hc
        subst this
        exact heap_lt hg
  | lent => exact hc.elim
  | lentR => exact hc.elim
  | box cs =>
    obtain ⟨a, rfl, _, hj⟩ := r
    obtain ⟨e, h1, h2⟩ := hc
    obtain ⟨x, hx⟩ : ∃ x, cs[o - a.off]? = some x := ⟨_, List.getElem?_eq_getElem (show o - a.off < cs.length by omega)⟩
    obtain ⟨_, u, hu, _⟩ := hj _ _ hx
    exact e ▸ cell_lt hu

theorem ObR.keep [Base] {B B' : Nat → Nat → Prop} (F : Fr M w w') (hM : ∀ g o, g < w.heap.size → M g o → B g o) (hb : ∀ g o, g < w.heap.size → B' g o → B g o) (N : Nm h c h' c')
    {ob : Ob} {v : Value} (hu : ∀ g o, cellsOf ob v g o → ¬ M g o) (r : ObR B w h c ob v) : ObR B' w' h' c' ob v := by
  have hk : ∀ g o, g < w.heap.size → ¬ B g o → w'.cell? ⟨g, o, none⟩ = w.cell? ⟨g, o, none⟩ := fun g o hg hn => (F.cell g o hg fun hm => hn (hM g o hg hm)).1
  cases ob with
  | row own f sz xs =>
    cases own with
    | false => exact RO.keep hk hb r
    | true =>
      obtain ⟨us, ho, hz, hf, hr⟩ := r
      refine ⟨us, ho.keep fun g cc q e => ?_, hz, hf, fun i x j y a b => ?_⟩
      · by_cases hg : g < w.heap.size
        · exact F.blk g hg fun o => hu g o (by subst e; exact rfl)
        · rcases ho.2 with ⟨e', _⟩ | ⟨g', cap, cur, e', e2, hg', _⟩
          · rw [e'] at e; injection e with e; cases e
          · rw [e2] at e; injection e with e; injection e with e; injection e with e; subst e; exact absurd (heap_lt hg') hg
      · obtain ⟨u, h1, h2⟩ := hr i x j y a b
        exact ⟨u, h1, h2.keep hk hb⟩
  | lent => trivial
  | lentR => trivial
  | box cs =>
    obtain ⟨a, rfl, hs, hj⟩ := r
    refine ⟨a, rfl, hs, fun j x hx => ?_⟩
    obtain ⟨h1, u, h2, h3, h4, h5⟩ := hj j x hx
    have hjl : j < cs.length := (List.getElem?_eq_some_iff.1 hx).1
    obtain ⟨p, q⟩ := F.cell a.block (a.off + j) (cell_lt h2) (hu _ _ ⟨rfl, by omega, by omega⟩)
    exact ⟨h1, u, p.trans h2, q.trans h3, h4, h5.keep hk hb N⟩

/-- The general step: names K are kept; those that are not hold what is new. -/
theorem Mv.make [Base] (H : HR X w h c) (F : Fr M w w') (hM : ∀ g o, g < w.heap.size → M g o → Mut h c g o) (N : Nm h c h' c') (K : Nat → Nat → Prop)
    (hk : ∀ s k ob, K s k → (h' s k).2 = some ob → (h s k).2 = some ob ∧ c' s k = c s k ∧ ∀ g o, cellsOf ob (c s k) g o → ¬ M g o)
    (hc : ∀ s k ob g o, ¬ K s k → (h' s k).2 = some ob → cellsOf ob (c' s k) g o → g < w.heap.size → Mut h c g o ∧ ∀ s' k' ob', K s' k' → (h' s' k').2 = some ob' → ¬ cellsOf ob' (c' s' k') g o)
    (hs : ∀ s k s' k' ob ob' g o, ¬ K s k → ¬ K s' k' → (h' s k).2 = some ob → (h' s' k').2 = some ob' → ¬ (s = s' ∧ k = k') → cellsOf ob (c' s k) g o → ¬ cellsOf ob' (c' s' k') g o)
    (hn : (∀ g o, g < w.heap.size → Bad X h' c' g o → Bad X h c g o) → ∀ s k ob, ¬ K s k → (h' s k).2 = some ob → ObR (Bad X h' c') w' h' c' ob (c' s k)) : Mv X M w h c w' h' c' := by
  have hmut : ∀ g o, g < w.heap.size → Mut h' c' g o → Mut h c g o := by
    rintro g o hg ⟨s, k, ob, e, hcell⟩
    by_cases hK : K s k
    · obtain ⟨e1, e2, _⟩ := hk s k ob hK e
      exact ⟨s, k, ob, e1, e2 ▸ hcell⟩
    · exact (hc s k ob g o hK e hcell hg).1
  have hbad : ∀ g o, g < w.heap.size → Bad X h' c' g o → Bad X h c g o := fun g o hg hb => hb.imp id (hmut g o hg)
  refine ⟨F, hM, hmut, N, H.bs.step F (fun g o hg hm => .inr (hM g o hg hm)) hbad, ?_, ?_, ?_, fun g o hx => Nat.lt_of_lt_of_le (H.xl g o hx) F.size⟩
  · intro s k ob e
    by_cases hK : K s k
    · obtain ⟨e1, e2, e3⟩ := hk s k ob hK e
      rw [e2]
      exact (H.ok s k ob e1).keep F (fun g o hg hm => .inr (hM g o hg hm)) hbad N e3
    · exact hn hbad s k ob hK e
  · have cross : ∀ s k s' k' ob ob' g o, K s k → ¬ K s' k' → (h' s k).2 = some ob → (h' s' k').2 = some ob' → cellsOf ob (c' s k) g o → ¬ cellsOf ob' (c' s' k') g o := by
      intro s k s' k' ob ob' g o hK hK' e e' hcell hcell'
      obtain ⟨e1, e2, _⟩ := hk s k ob hK e
      have hg : g < w.heap.size := cellsOf_lt (H.ok s k ob e1) (e2 ▸ hcell)
      exact (hc s' k' ob' g o hK' e' hcell' hg).2 s k ob hK e hcell
    intro s k s' k' ob ob' g o e e' hne hcell hcell'
    by_cases hK : K s k <;> by_cases hK' : K s' k'
    · obtain ⟨e1, e2, _⟩ := hk s k ob hK e
      obtain ⟨e1', e2', _⟩ := hk s' k' ob' hK' e'
      exact H.sep s k s' k' ob ob' g o e1 e1' hne (e2 ▸ hcell) (e2' ▸ hcell')
    · exact cross s k s' k' ob ob' g o hK hK' e e' hcell hcell'
    · exact cross s' k' s k ob' ob g o hK' hK e' e hcell' hcell
    · exact hs s k s' k' ob ob' g o hK hK' e e' hne hcell hcell'
  · intro g o hm hx
    have hg := H.xl g o hx
    exact H.nx g o (hmut g o hg hm) hx

theorem Mv.refl [Base] (H : HR X w h c) (M : Nat → Nat → Prop) (hM : ∀ g o, ¬ M g o) : Mv X M w h c w h c :=
  ⟨Fr.refl _ _, fun g o _ hm => absurd hm (hM g o), fun _ _ _ hm => hm, ⟨fun _ _ => Nat.le_refl _, fun s k ob hb _ e => ⟨rfl, ob, hb, e, rfl⟩, fun s k ob hb _ e => ⟨rfl, ob, hb, e⟩⟩, H⟩

theorem Nm.trans {h'' : Hp} {c'' : Cz} (a : Nm h c h' c') (b : Nm h' c' h'' c'') : Nm h c h'' c'' := by
  refine ⟨fun s k => Nat.le_trans (a.gen s k) (b.gen s k), fun s k ob hb e e2 => ?_, fun s k ob hb e e2 => ?_⟩
  · have g1 := a.gen s k; have g2 := b.gen s k
    obtain ⟨p, ob', hb', q, l⟩ := b.row s k ob hb (by omega) e2
    obtain ⟨p', ob'', hb'', q', l'⟩ := a.row s k ob' hb' (by omega) q
    exact ⟨p.trans p', ob'', hb'', q', l'.trans l⟩
  · have g1 := a.gen s k; have g2 := b.gen s k
    obtain ⟨p, ob', hb', q⟩ := b.box s k ob hb (by omega) e2
    obtain ⟨p', ob'', hb'', q'⟩ := a.box s k ob' hb' (by omega) q
    exact ⟨p.trans p', ob'', hb'', q'⟩
theorem Mv.trans [Base] {M' M₀ : Nat → Nat → Prop} {w'' : World} {h'' : Hp} {c'' : Cz} (a : Mv X M w h c w' h' c') (b : Mv X M' w' h' c' w'' h'' c'')
    (hm : ∀ g o, g < w.heap.size → M g o ∨ M' g o → M₀ g o) (hm0 : ∀ g o, g < w.heap.size → M₀ g o → Mut h c g o) : Mv X M₀ w h c w'' h'' c'' :=
  ⟨a.fr.trans b.fr (fun g o hg x => hm g o hg (.inl x)) (fun g o hg x => hm g o hg (.inr x)), hm0,
   fun g o hg x => a.mut_ g o hg (b.mut_ g o (Nat.lt_of_lt_of_le hg a.fr.size) x), a.nm.trans b.nm, b.hr⟩
/-- Two steps, told by all that may change. -/
theorem Mv.andThen [Base] {M' : Nat → Nat → Prop} {w'' : World} {h'' : Hp} {c'' : Cz} (a : Mv X M w h c w' h' c') (b : Mv X M' w' h' c' w'' h'' c'') : Mv X (Mut h c) w h c w'' h'' c'' :=
  a.trans b (fun g o hg x => x.elim (a.inM g o hg) fun y => a.mut_ g o hg (b.inM g o (Nat.lt_of_lt_of_le hg a.fr.size) y)) fun _ _ _ x => x
theorem Mv.all [Base] (a : Mv X M w h c w' h' c') : Mv X (Mut h c) w h c w' h' c' := ⟨a.fr.mono a.inM, fun _ _ _ x => x, a.mut_, a.nm, a.hr⟩
end Go.Ev
