/- The evaluator: EvW. -/
import Derived.Test.YtifomiglajcanaaGreatDoorEvLim
set_option linter.unusedSimpArgs false
set_option linter.unusedVariables false
namespace Go.Ev
set_option linter.unusedVariables false
variable {P : Program} {tb : Tb} {md : Md} {prim : Prim} {call : CallF}

/-! ### Values -/
abbrev vI (n : Int) : V := .d (.p (.int .i64 n))
abbrev vB (b : Bool) : V := .d (.p (.bool b))
abbrev vS (s : ByteArray) : V := .d (.p (.string s))
abbrev vY (n : Int) : V := .d (.p (.int .u8 n))

/-! ### Code -/
def thenQ (o : Out) (S : St) (F : St → Prop) (Q : Out → St → Prop) : Prop := match o with
  | .nrm => F S
  | o => Q o S
theorem thenQ_nrm {S F Q} : thenQ .nrm S F Q = F S := rfl
theorem thenQ_ret {S F Q} : thenQ .ret S F Q = Q .ret S := rfl
theorem thenQ_ex {i S F Q} : thenQ (.ex i) S F Q = Q (.ex i) S := rfl
theorem W_skip {S Q} : W P tb md prim .skip S Q = Q .nrm S := propext ⟨fun ⟨n, o, S', e, q⟩ => by simp [evC] at e; obtain ⟨rfl, rfl⟩ := e; exact q, fun q => ⟨0, _, _, rfl, q⟩⟩
theorem W_ret {S Q} : W P tb md prim .ret S Q = Q .ret S := propext ⟨fun ⟨n, o, S', e, q⟩ => by simp [evC] at e; obtain ⟨rfl, rfl⟩ := e; exact q, fun q => ⟨0, _, _, rfl, q⟩⟩
theorem W_exit {id S Q} : W P tb md prim (.exit id) S Q = Q (.ex id) S := propext ⟨fun ⟨n, o, S', e, q⟩ => by simp [evC] at e; obtain ⟨rfl, rfl⟩ := e; exact q, fun q => ⟨0, _, _, rfl, q⟩⟩
theorem W_seq {a b S Q} : W P tb md prim (.seq a b) S Q = W P tb md prim a S fun o S' => thenQ o S' (fun S' => W P tb md prim b (sq a S') Q) Q := by
  refine propext ⟨fun ⟨n, o, S', e, q⟩ => ?_, fun ⟨n, o, S', e, q⟩ => ?_⟩
  · simp only [evC, Option.bind_eq_some_iff] at e
    obtain ⟨⟨o1, S1⟩, e1, e2⟩ := e
    refine ⟨n, o1, S1, e1, ?_⟩
    cases o1 with
    | nrm => exact ⟨n, o, S', e2, q⟩
    | ret => cases e2; exact q
    | ex i => cases e2; exact q
  · cases o with
    | nrm =>
      obtain ⟨m, o, S2, e2, q⟩ := q
      refine ⟨max n m, o, S2, ?_, q⟩
      simp only [evC, evC_more (Nat.le_max_left n m) _ _ _ e, Option.bind_some, evC_more (Nat.le_max_right n m) _ _ _ e2]
    | ret => exact ⟨n, .ret, S', by simp only [evC, e, Option.bind_some], q⟩
    | ex i => exact ⟨n, .ex i, S', by simp only [evC, e, Option.bind_some], q⟩
theorem W_block {id c S} {Q : Out → St → Prop} : W P tb md prim (.block id c) S Q = W P tb md prim c S fun o S' => Q (o.unblock id) S' := by
  refine propext ⟨fun ⟨n, o, S', e, q⟩ => ?_, fun ⟨n, o, S', e, q⟩ => ?_⟩
  · simp only [evC, Option.map_eq_some_iff] at e
    obtain ⟨⟨o1, S1⟩, e1, e2⟩ := e
    cases e2
    exact ⟨n, o1, S1, e1, q⟩
  · exact ⟨n, _, S', by simp only [evC, e]; rfl, q⟩
def condW (v : V) (p q : Prop) : Prop := match v with
  | .d (.p (.bool t)) => if t = true then p else q
  | _ => False
theorem condW_b {t : Bool} {p q : Prop} : condW (.d (.p (.bool t))) p q = ((t = true → p) ∧ (t = false → q)) := by cases t <;> simp [condW]
theorem W_cond {c a b S Q} : W P tb md prim (.cond c a b) S Q = condW (S.ev c) (W P tb md prim a S Q) (W P tb md prim b S Q) := by
  refine propext ⟨fun ⟨n, o, S', e, q⟩ => ?_, fun h => ?_⟩
  · simp only [evC] at e
    split at e
    · rename_i t ht
      rw [ht, condW_b]
      cases t with
      | true => exact ⟨fun _ => ⟨n, o, S', e, q⟩, nofun⟩
      | false => exact ⟨nofun, fun _ => ⟨n, o, S', e, q⟩⟩
    · cases e
  · unfold condW at h
    split at h
    · rename_i t ht
      cases t with
      | true =>
        obtain ⟨n, o, S', e, q⟩ := h
        exact ⟨n, o, S', by simp only [evC, ht]; exact e, q⟩
      | false =>
        obtain ⟨n, o, S', e, q⟩ := h
        exact ⟨n, o, S', by simp only [evC, ht]; exact e, q⟩
    · exact h.elim
theorem W_region {id ops draw S Q} : W P tb md prim (.region id ops draw) S Q = ∃ S', evRegion P tb md (Ev P tb md prim) ops draw S = some S' ∧ Q .nrm S' := by
  refine propext ⟨fun ⟨n, o, S', e, q⟩ => ?_, fun ⟨S', e, q⟩ => ⟨0, .nrm, S', by simp only [evC, e, Option.map_some], q⟩⟩
  simp only [evC, Option.map_eq_some_iff] at e
  obtain ⟨S1, e1, e2⟩ := e
  cases e2
  exact ⟨S', e1, q⟩
theorem W_mono {c S} {Q Q' : Out → St → Prop} (h : W P tb md prim c S Q) (k : ∀ o S', Q o S' → Q' o S') : W P tb md prim c S Q' := by
  obtain ⟨n, o, S', e, q⟩ := h
  exact ⟨n, o, S', e, k _ _ q⟩
/-- A loop: an invariant with a measure. -/
theorem W_loop {b : Code} {Q : Out → St → Prop} (I : Nat → St → Prop) (hb : ∀ m S, I m S → W P tb md prim b S.norm fun o S' => thenQ o S' (fun S' => ∃ m', m' < m ∧ I m' S') Q) : ∀ (m : Nat) (S : St), I m S → W P tb md prim (.loop b) S Q := by
  intro m
  induction m using Nat.strongRecOn with
  | ind m ih =>
    intro S hI
    obtain ⟨n, o, S', e, q⟩ := hb m S hI
    cases o with
    | nrm =>
      obtain ⟨m', hm, hI'⟩ := q
      obtain ⟨n', o', S2, e', q'⟩ := ih m' hm S' hI'
      refine ⟨max n n' + 1, o', S2, ?_, q'⟩
      simp only [evC] at e' ⊢
      simp only [evLoop, evC_more (show n ≤ max n n' + 1 by omega) _ _ _ e, Option.bind_some]
      exact evLoop_more (fun S r => evC_more (by omega) b S r) (by omega) e'
    | ret => exact ⟨n + 1, .ret, S', by simp only [evC, evLoop, evC_more (Nat.le_succ n) _ _ _ e, Option.bind_some], q⟩
    | ex i => exact ⟨n + 1, .ex i, S', by simp only [evC, evLoop, evC_more (Nat.le_succ n) _ _ _ e, Option.bind_some], q⟩

end Go.Ev
