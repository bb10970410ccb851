/- The evaluator: EvEq. -/
import Derived.Test.YtifomiglajcanaaGreatDoorEvDef
import Derived.Laws.StructEq
set_option linter.unusedSimpArgs false
set_option linter.unusedVariables false
namespace Go.Ev
open Go
set_option linter.unusedVariables false

/-! ### '==' of structs whose fields are numbers, texts and truths -/
theorem pureRun_bind {α β : Type} (P : Program) (s : Sem α) (k : α → Sem β) : pureRun P (s >>= k) = (pureRun P s).bind fun a => pureRun P (k a) := by
  show pureRun P (Sem.bind s k) = _
  induction s with
  | pure a => rfl
  | program f ih => exact ih P
  | _ => rfl
theorem pureRun_pure {α : Type} (P : Program) (a : α) : pureRun P (pure a) = some a := rfl
theorem pureRun_ite {α : Type} (P : Program) {c : Prop} [Decidable c] (s t : Sem α) : pureRun P (if c then s else t) = if c then pureRun P s else pureRun P t := by split <;> rfl
structure EqF (P : Program) (d : Nat) (xs ys : Array Value) (f : Field) (r : Bool) : Prop where
  named : f.name ≠ "_"
  eq : ∃ a b, pureRun P (part f.type xs f.offset) = some a ∧ pureRun P (part f.type ys f.offset) = some b ∧ pureRun P (Op.equalIn d f.type a b) = some r
inductive EqFs (P : Program) (d : Nat) (xs ys : Array Value) : List Field → Bool → Prop
  | nil : EqFs P d xs ys [] true
  | cons {f fs r rs} (h : EqF P d xs ys f r) (hs : EqFs P d xs ys fs rs) : EqFs P d xs ys (f :: fs) (r && rs)
theorem pureRun_underlying (P : Program) (t : TypeId) : pureRun P (underlying t) = P.underlying t := by
  show pureRun P (match P.underlying t with | some u => _ | none => _) = _
  cases P.underlying t <;> rfl
theorem pure_struct {P : Program} (d : Nat) (t : TypeId) (xs ys : Array Value) {fs : Array Field} {r : Bool} (ht : P.underlying t = some (.struct fs)) (hp : P.stoodInHeld t = false) (h : EqFs P d xs ys fs.toList r) :
    pureRun P (Op.equalIn (d + 1) t (.agg xs) (.agg ys)) = some r := by
  have hu : pureRun P (underlying t) = some (.struct fs) := by rw [pureRun_underlying, ht]
  have hq : pureRun P program = some P := rfl
  simp only [Op.equalIn, pureRun_bind, hu, Option.bind_some]
  simp only [hq, Option.bind_some, hp, Bool.false_eq_true, if_false]
  rw [pureRun_bind, ← Array.forIn_toList]
  generalize fs.toList = l at h
  suffices key : pureRun P (forIn l ((none : Option Bool), ()) fun f __s =>
      if f.name ≠ "_" then do
        let a ← part f.type xs f.offset
        let b ← part f.type ys f.offset
        let c ← Op.equalIn d f.type a b
        if (!c) = true then pure (ForInStep.done (some false, ()))
          else pure (ForInStep.yield (none, ()))
      else pure (ForInStep.yield (none, ()))) = some (if r then none else some false, ()) by
    show (pureRun P (forIn l ((none : Option Bool), ()) _)).bind _ = some r
    rw [key]
    cases r <;> rfl
  clear hu ht
  induction h with
  | nil => rfl
  | @cons f fs r rs h hs ih =>
    obtain ⟨hn, a, b, e1, e2, e3⟩ := h
    rw [List.forIn_cons, pureRun_bind, if_pos hn]
    simp only [pureRun_bind, e1, e2, e3, Option.bind_some, pureRun_ite]
    cases r
    · rfl
    · simpa [pureRun_pure] using ih
/-- The fields' kinds: 0 a number, 1 a text, 2 a truth. -/
def flatFs (P : Program) : List Field → Nat → Option (List Nat)
  | [], _ => some []
  | f :: fs, o => bif f.name == "_" || f.offset != o then none else
    (match P.underlying f.type with
      | some (.int _) => some 0
      | some .string => some 1
      | some .bool => some 2
      | _ => none).bind fun k => (flatFs P fs (o + 1)).map (k :: ·)
def flatEq (P : Program) (t : TypeId) : Option (List Nat) :=
  match P.underlying t with
  | some (.struct fs) => bif P.stoodInHeld t || P.eqGuardType P.depth t then none else flatFs P fs.toList 0
  | _ => none
def eqV : V → V → Option (Nat × Bool)
  | .d (.p (.int k a)), .d (.p (.int k' b)) => bif decide (k = k') then some (0, decide (a = b)) else none
  | .d (.p (.string a)), .d (.p (.string b)) => some (1, a.toList == b.toList)
  | .d (.p (.bool a)), .d (.p (.bool b)) => some (2, a == b)
  | _, _ => none
def eqVs : List V → List V → Option (List Nat × Bool)
  | [], [] => some ([], true)
  | a :: as, b :: bs => match eqV a b, eqVs as bs with
    | some (k, r), some (ks, s) => some (k :: ks, r && s)
    | _, _ => none
  | _, _ => none
theorem eqV_val {a b : V} {k : Nat} {r : Bool} (e : eqV a b = some (k, r)) : ∃ x y, a.val1 = some x ∧ b.val1 = some y ∧
    ((k = 0 ∧ ∃ q i j, x = .int q i ∧ y = .int q j ∧ r = decide (i = j)) ∨ (k = 1 ∧ ∃ i j, x = .string i ∧ y = .string j ∧ r = (i == j)) ∨ (k = 2 ∧ ∃ i j, x = .bool i ∧ y = .bool j ∧ r = (i == j))) := by
  unfold eqV at e
  split at e
  · rename_i q i q' j
    by_cases h : q = q'
    · subst h
      simp at e
      obtain ⟨rfl, rfl⟩ := e
      exact ⟨_, _, rfl, rfl, .inl ⟨rfl, q, i, j, rfl, rfl, rfl⟩⟩
    · simp [h] at e
  · simp at e; obtain ⟨rfl, rfl⟩ := e
    exact ⟨_, _, rfl, rfl, .inr (.inl ⟨rfl, _, _, rfl, rfl, (beq_toListBytes _ _).symm⟩)⟩
  · simp at e; obtain ⟨rfl, rfl⟩ := e
    exact ⟨_, _, rfl, rfl, .inr (.inr ⟨rfl, _, _, rfl, rfl, rfl⟩)⟩
  · cases e
theorem eqVs_mapM : ∀ {as bs : List V} {ks : List Nat} {r : Bool}, eqVs as bs = some (ks, r) → ∃ xs ys : List Value, as.mapM V.val1 = some xs ∧ bs.mapM V.val1 = some ys ∧
    ∀ (P : Program) (d : Nat) (p q : List Value) (fs : List Field), flatFs P fs p.length = some ks → p.length = q.length → EqFs P (d + 1) (p ++ xs).toArray (q ++ ys).toArray fs r
  | [], [], ks, r, e => by
    simp [eqVs] at e
    obtain ⟨rfl, rfl⟩ := e
    refine ⟨[], [], rfl, rfl, fun P d p q fs h hl => ?_⟩
    cases fs with
    | nil => exact .nil
    | cons f fs =>
      simp only [flatFs] at h
      cases h1 : (f.name == "_" || f.offset != p.length) with
      | true => simp [h1] at h
      | false =>
        simp only [h1, cond_false, Option.bind_eq_some_iff, Option.map_eq_some_iff] at h
        obtain ⟨a, _, b, _, h⟩ := h
        cases h
  | a :: as, b :: bs, ks, r, e => by
    simp only [eqVs] at e
    split at e
    · rename_i k r1 ks1 s h1 h2
      simp at e
      obtain ⟨rfl, rfl⟩ := e
      obtain ⟨x, y, ha, hb, hxy⟩ := eqV_val h1
      obtain ⟨xs, ys, e1, e2, ih⟩ := eqVs_mapM h2
      refine ⟨x :: xs, y :: ys, by simp [ha, e1], by simp [hb, e2], fun P d p q fs h hl => ?_⟩
      cases fs with
      | nil => simp [flatFs] at h
      | cons f fs =>
        simp only [flatFs] at h
        cases h3 : (f.name == "_" || f.offset != p.length) with
        | true => simp [h3] at h
        | false =>
          simp only [h3, cond_false, Option.bind_eq_some_iff, Option.map_eq_some_iff, List.cons.injEq] at h
          obtain ⟨k', hk, ks', hks, rfl, rfl⟩ := h
          simp at h3
          obtain ⟨hn, ho⟩ := h3
          have hpx : pureRun P (part f.type (p ++ x :: xs).toArray f.offset) = some x ∧ pureRun P (part f.type (q ++ y :: ys).toArray f.offset) = some y := by
            have hag : pureRun P (Go.isAgg f.type) = some false := by
              simp only [Go.isAgg, pureRun_bind, pureRun_underlying]
              split at hk <;> simp_all [pureRun_pure]
            constructor
            · simp only [part, pureRun_bind, hag, Option.bind_some, Bool.false_eq_true, if_false, ho]
              simp [pureRun_pure]
            · simp only [part, pureRun_bind, hag, Option.bind_some, Bool.false_eq_true, if_false, ho, hl]
              simp [pureRun_pure]
          refine .cons ⟨hn, x, y, hpx.1, hpx.2, ?_⟩ ?_
          · simp only [Op.equalIn, pureRun_bind, pureRun_underlying]
            rcases hxy with ⟨rfl, c, i, j, rfl, rfl, rfl⟩ | ⟨rfl, i, j, rfl, rfl, rfl⟩ | ⟨rfl, i, j, rfl, rfl, rfl⟩
            · split at hk <;> simp_all [pureRun_pure]
              rfl
            · split at hk <;> simp_all [pureRun_pure]
            · split at hk <;> simp_all [pureRun_pure]
          · have := ih P d (p ++ [x]) (q ++ [y]) fs (by simpa using hks) (by simpa using hl)
            simpa using this
    · cases e
  | [], b :: bs, ks, r, e => by simp [eqVs] at e
  | a :: as, [], ks, r, e => by simp [eqVs] at e
theorem sc_eql {P : Program} {t : TypeId} {cs ds : List V} {ks : List Nat} {b : Bool} (hf : flatEq P t = some ks) (he : eqVs cs ds = some (ks, b)) (x y : Operand) (neq : Bool) :
    ((V.agg cs).val.bind fun a => (V.agg ds).val.bind fun b' => sc P (do eqGuard (bif neq then .neq else .eql) t x y a b'; binOp (bif neq then .neq else .eql) t a b')) = some (.d (.p (.bool (bif neq then !b else b)))) := by
  obtain ⟨xs, ys, e1, e2, h⟩ := eqVs_mapM he
  unfold flatEq at hf
  split at hf
  · rename_i fs hu
    cases h1 : (P.stoodInHeld t || P.eqGuardType P.depth t) with
    | true => simp [h1] at hf
    | false =>
      simp only [h1, cond_false] at hf
      simp at h1
      have hs := pure_struct (P := P) 9999 t xs.toArray ys.toArray hu h1.1 (by simpa using h P 9998 [] [] fs.toList (by simpa using hf) rfl)
      have hg : ∀ op, pureRun P (eqGuard op t x y (.agg xs.toArray) (.agg ys.toArray)) = some () := by
        intro op
        have hq : pureRun P program = some P := rfl
        simp only [eqGuard, pureRun_ite, pureRun_bind, hq, Option.bind_some, h1.2, Bool.not_false, if_true]
        split <;> rfl
      simp only [V.val, e1, e2, Option.map_some, Option.bind_some, sc, pureRun_bind, hg]
      have hb : ∀ op : BinOp, op = (bif neq then .neq else .eql) → pureRun P (binOp op t (.agg xs.toArray) (.agg ys.toArray)) = some (.bool (bif neq then !b else b)) := by
        rintro op rfl
        cases neq
        · show pureRun P (Op.equalIn (9999 + 1) t (.agg xs.toArray) (.agg ys.toArray) >>= fun r => pure (Value.bool r)) = _
          rw [pureRun_bind, hs]; rfl
        · show pureRun P (Op.equalIn (9999 + 1) t (.agg xs.toArray) (.agg ys.toArray) >>= fun r => pure (Value.bool (!r))) = _
          rw [pureRun_bind, hs]; rfl
      rw [hb _ rfl]
      rfl
  · cases hf
end Go.Ev
