/- The evaluator: EvG. -/
import Derived.Test.YtifomiglajcanaaGreatDoorEvK
set_option linter.unusedSimpArgs false
set_option linter.unusedVariables false
namespace Go.Ev
set_option linter.unusedVariables false
variable {P : Program} {tb : Tb} {md : Md} {prim : Prim}

/-! ### Words of the printed functions -/
def eI (n : Int) : List D := [.p (.int .i64 n)]
def eY (n : Int) : List D := [.p (.int .u8 n)]
def eK (k : IntKind) (n : Int) : List D := [.p (.int k n)]
def eB (b : Bool) : List D := [.p (.bool b)]
def eS (s : ByteArray) : List D := [.p (.string s)]
def eL {α : Type} (f : Bool) (sz : Nat) (e : α → List D) (x : List α) : List D := [.l f sz (x.map e)]
abbrev w64 (n : Int) : Int := IntKind.i64.wrap n
def at_ {α : Type} (l : List α) (i : Int) : Option α := if 0 ≤ i then l[i.toNat]? else none
def gd {ρ : Type} (c : Prop) [Decidable c] (x : Option ρ) : Option ρ := if c then x else none
/-- What follows behind a choice, told once. -/
def jn {α ρ : Type} (rest : α → Option ρ) (tree : (α → Option ρ) → Option ρ) : Option ρ := tree rest
/-- A loop that may also return. -/
def lb {ρ' τ ρ : Type} (x : Option (ρ' ⊕ τ)) (ret : ρ' → Option ρ) (rest : τ → Option ρ) : Option ρ := match x with
  | none => none
  | some (.inl a) => ret a
  | some (.inr a) => rest a

theorem bindS {α ρ : Type} {x : Option α} {k : α → Option ρ} {r : ρ} (h : x.bind k = some r) : ∃ a, x = some a ∧ k a = some r := Option.bind_eq_some_iff.1 h
theorem bindG {α ρ : Type} {x : Option α} {k : α → Option ρ} {r : ρ} {p : Prop} (h : x.bind k = some r) (q : ∀ a, x = some a → k a = some r → p) : p := by
  obtain ⟨a, e, f⟩ := Option.bind_eq_some_iff.1 h; exact q a e f
theorem lbS {ρ' τ ρ : Type} {x : Option (ρ' ⊕ τ)} {ret : ρ' → Option ρ} {rest : τ → Option ρ} {r : ρ} (h : lb x ret rest = some r) : ∃ a, x = some a ∧ Sum.elim ret rest a = some r := by
  cases x with
  | none => cases h
  | some a => exact ⟨a, rfl, by cases a <;> exact h⟩
theorem iteF {ρ : Type} {c : Prop} [Decidable c] {A B : Option ρ} {r : ρ} {p q : Prop} (h : (if c then A else B) = some r) (h1 : c → A = some r → p) (h2 : ¬ c → B = some r → q) : Ask (decide c) p q := by
  by_cases hc : c
  · rw [if_pos hc] at h; exact .T (decide_eq_true hc) (h1 hc h)
  · rw [if_neg hc] at h; exact .F (decide_eq_false hc) (h2 hc h)
theorem cdX {P : Program} {tb : Tb} {md : Md} {prim : Prim} {c : Operand} {a b : Code} {S : St} {k : Out → St → Prop} {t : Bool} (hS : S.ev c = .d (.p (.bool t))) (h : Ask t (evP P tb md prim a (S.set c true) k) (evP P tb md prim b (S.set c false) k)) : evP P tb md prim (.cond c a b) S k := by
  show (match S.ev c with
    | .d (.p (.bool t)) => Ask t (evP P tb md prim a (S.set c true) k) (evP P tb md prim b (S.set c false) k)
    | _ => False)
  rw [hS]; exact h
/-- A state behind a loop, known by facts, written anew: rows that came in. -/
def rowE (N : Nat) : Nat × Nat × Nat × Option Ob → Bool
  | (s, 0, _, some (.row ..)) => Nat.ble N s
  | _ => false
theorem un_norm {S : St} : ∀ {H : List (Nat × Nat × Nat × Option Ob)}, H.all (rowE S.n) = true → AllHp S.norm.h H → AllHp S.h H
  | [], _, _ => trivial
  | (s, k, x) :: l, hr, ⟨h1, h2⟩ => by
    simp only [List.all_cons, Bool.and_eq_true] at hr
    refine ⟨?_, un_norm hr.2 h2⟩
    have hr1 := hr.1
    unfold rowE at hr1
    split at hr1
    · rename_i s' g a b c d e
      cases e
      change ((bif Nat.ble S.n s && Nat.beq 0 0 then (S.h s 0).1 else 2), (S.h s 0).2.map (Ob.nrm S.n S.h)) = (g, some (.row a b c d)) at h1
      rw [hr1] at h1
      injection h1 with e1 e2
      cases hq : (S.h s 0).2 with
      | none => rw [hq] at e2; cases e2
      | some ob =>
        rw [hq] at e2
        simp only [Option.map_some, Option.some.injEq] at e2
        cases ob with
        | row => exact Prod.ext e1 (by rw [hq]; exact congrArg some e2)
        | _ => cases e2
    · cases hr1
theorem knR {S : St} {Q : St → Prop} (N : Nat) (H : List (Nat × Nat × Nat × Option Ob)) (hn : S.norm.n = N) (hH : AllHp S.norm.h H) (hr : H.all (rowE N) = true) (h : ∀ e hp, Q ⟨N, e, hov H hp⟩) : Q S := by
  obtain ⟨n, e, hp⟩ := S
  subst hn
  have := un_norm (S := ⟨n, e, hp⟩) hr hH
  have e2 := hov_eq this
  simp only at e2
  rw [e2]
  exact h _ _
theorem ifB {ρ : Type} {t : Bool} {A B : Option ρ} {r : ρ} {p q : Prop} (h : (if t = true then A else B) = some r) (h1 : t = true → A = some r → p) (h2 : t = false → B = some r → q) : Ask t p q := by
  cases t with
  | true => exact .T rfl (h1 rfl h)
  | false => exact .F rfl (h2 rfl h)
theorem gdS {ρ : Type} {c : Prop} [Decidable c] {x : Option ρ} {r : ρ} (h : gd c x = some r) : c ∧ x = some r := by
  unfold gd at h
  by_cases hc : c
  · rw [if_pos hc] at h; exact ⟨hc, h⟩
  · rw [if_neg hc] at h; cases h
theorem gdG {ρ : Type} {c : Prop} [Decidable c] {x : Option ρ} {r : ρ} {p : Prop} (h : gd c x = some r) (q : c → x = some r → p) : p := q (gdS h).1 (gdS h).2
theorem at_S {α : Type} {l : List α} {i : Int} {x : α} (h : at_ l i = some x) : 0 ≤ i ∧ i < (l.length : Int) ∧ l[i.toNat]? = some x := by
  unfold at_ at h
  split at h
  · rename_i h0
    have := (List.getElem?_eq_some_iff.1 h).1
    exact ⟨h0, by omega, h⟩
  · cases h
theorem at_ix {α : Type} {l : List α} {f : α → List D} {D' : List (List D)} {i : Int} {x : α} (p : D' = l.map f) (h : at_ l i = some x) : 0 ≤ i ∧ i < (D'.length : Int) := by
  obtain ⟨a, b, _⟩ := at_S h
  subst p; simpa using ⟨a, b⟩
theorem at_get {α : Type} {l : List α} {f : α → List D} {D' : List (List D)} {i : Int} {x : α} (p : D' = l.map f) (h : at_ l i = some x) : D'[i.toNat]? = some (f x) := by
  obtain ⟨_, _, b⟩ := at_S h
  subst p; simp [b]
theorem lenM {α β : Type} {x : List α} {y : List β} {f : α → List D} {g : β → List D} (h : x.length = y.length) : (x.map f).length = (y.map g).length := by simp [h]
/-- A byte of a string. -/
def atS (s : ByteArray) (i : Int) : Option UInt8 := bif decide (0 ≤ i) then s[i.toNat]? else none

theorem numsOf_map : ∀ l : List Int, numsOf (l.map eY) = some l
  | [] => rfl
  | n :: l => by simp [numsOf, eY, numsOf_map l]

/-! ### Lists as the evaluator holds them -/
theorem mNil {α : Type} {f : α → List D} : ([] : List (List D)) = ([] : List α).map f := rfl
theorem mOne {α : Type} {f : α → List D} {a : α} {d : List D} (h : d = f a) : [d] = [a].map f := by rw [h]; rfl
theorem mApp {α : Type} {f : α → List D} {a b : List α} {d e : List (List D)} (h : d = a.map f) (k : e = b.map f) : d ++ e = (a ++ b).map f := by rw [h, k, List.map_append]
theorem mTake {α : Type} {f : α → List D} {a : List α} {d : List (List D)} {n : Nat} (h : d = a.map f) : d.take n = (a.take n).map f := by rw [h, List.map_take]
theorem mDrop {α : Type} {f : α → List D} {a : List α} {d : List (List D)} {n : Nat} (h : d = a.map f) : d.drop n = (a.drop n).map f := by rw [h, List.map_drop]
theorem mSet {α : Type} {f : α → List D} {a : List α} {d : List (List D)} {n : Nat} {x : α} {y : List D} (h : d = a.map f) (k : y = f x) : d.set n y = (a.set n x).map f := by rw [h, k, List.map_set]
theorem mRep {α : Type} {f : α → List D} {n : Nat} {x : α} {y : List D} (k : y = f x) : List.replicate n y = (List.replicate n x).map f := by rw [k, List.map_replicate]
theorem mLen {α : Type} {f : α → List D} {a : List α} {d : List (List D)} (h : d = a.map f) : (d.length : Int) = (a.length : Int) := by rw [h, List.length_map]
theorem at_lt {α : Type} {l : List α} {f : α → List D} {D' : List (List D)} {i : Int} {x : α} (p : D' = l.map f) (h : at_ l i = some x) : i.toNat < D'.length := by
  obtain ⟨a, b, _⟩ := at_S h
  subst p; simp; omega
theorem apB {α β : Type} {a : List α} {b : List β} {f : α → List D} {g : β → List D} {n N : Nat} (h : (a.length + b.length) * n ≤ N) : ((a.map f).length + (b.map g).length) * n ≤ N := by rw [List.length_map, List.length_map]; exact h
theorem apN {β : Type} {b : List β} {g : β → List D} {n N : Nat} (h : b.length * n ≤ N) : (b.map g).length * n ≤ N := by rw [List.length_map]; exact h
theorem slB {α : Type} {a : List α} {f : α → List D} {l r : Int} (h : 0 ≤ l ∧ l ≤ r ∧ r ≤ (a.length : Int)) : 0 ≤ l ∧ l ≤ r ∧ r ≤ ((a.map f).length : Int) := by rw [List.length_map]; exact h
theorem slN {α : Type} {a : List α} {f : α → List D} {l : Int} (h : 0 ≤ l ∧ l ≤ (a.length : Int)) : 0 ≤ l ∧ l ≤ ((a.map f).length : Int) ∧ ((a.map f).length : Int) ≤ ((a.map f).length : Int) := by rw [List.length_map]; exact ⟨h.1, h.2, Int.le_refl _⟩
theorem mSub {α : Type} {f : α → List D} {a : List α} {m n : Nat} : ((a.map f).take m).drop n = ((a.take m).drop n).map f := by rw [List.map_drop, List.map_take]
theorem mDropN {α : Type} {f : α → List D} {a : List α} {n : Nat} : ((a.map f).take (((a.map f).length : Int).toNat)).drop n = (a.drop n).map f := by rw [Int.toNat_natCast, List.take_length, List.map_drop]
theorem slS {l r : Int} {n : Nat} (h : 0 ≤ l ∧ l ≤ r ∧ r ≤ (n : Int)) : 0 ≤ l ∧ l ≤ r ∧ r ≤ (n : Int) := h

/-! ### Loops and meetings of ways, by the printed function -/
/-- What is known where a loop is left. -/
def LQ {ρ τ : Type} (p : ρ → Out → St → Prop) (q : τ → Out → St → Prop) : ρ ⊕ τ → Out → St → Prop
  | .inl a => p a
  | .inr a => q a
structure RQ {ρ : Type} (en : ρ → St → Prop) (r : ρ) (o : Out) (S : St) : Prop where
  l : o = .ret
  q : en r S
structure EQ {τ : Type} (id N : Nat) (L : τ → List (Nat × V)) (H : τ → List (Nat × Nat × Nat × Option Ob)) (x : τ) (o : Out) (S : St) : Prop where
  l : o = .ex id
  q : Kn N (L x) (H x) S.norm
theorem retE {ρ : Type} {enc : ρ → Res} {e r : ρ} {X : Option Res} (h : some e = some r) (q : X = some (enc e)) : X = some (enc r) := by cases h; exact q
theorem reQ {ρ : Type} {en : ρ → St → Prop} {e r : ρ} {S : St} (h : some e = some r) (q : en e S) : RQ en r .ret S := by cases h; exact ⟨rfl, q⟩
theorem exQ {τ : Type} {id N : Nat} {L : τ → List (Nat × V)} {H : τ → List (Nat × Nat × Nat × Option Ob)} {e r : τ} {S : St} (h : some e = some r) (q : Kn N (L e) (H e) S.norm) : EQ id N L H r (.ex id) S := by cases h; exact ⟨rfl, q⟩
theorem lqL {ρ τ : Type} {en : ρ → St → Prop} {X : τ → Out → St → Prop} {e : ρ} {r : ρ ⊕ τ} {S : St} (h : some (.inl e) = some r) (q : en e S) : LQ (RQ en) X r .ret S := by cases h; exact ⟨rfl, q⟩
theorem lqR {ρ τ : Type} {p : ρ → Out → St → Prop} {id N : Nat} {L : τ → List (Nat × V)} {H : τ → List (Nat × Nat × Nat × Option Ob)} {e : τ} {r : ρ ⊕ τ} {S : St} (h : some (.inr e) = some r) (q : Kn N (L e) (H e) S.norm) : LQ p (EQ id N L H) r (.ex id) S := by cases h; exact ⟨rfl, q⟩
theorem loopF {b : Code} {α ρ : Type} (N : Nat) (L : α → List (Nat × V)) (H : α → List (Nat × Nat × Nat × Option Ob)) (F : Nat → α → Option ρ) {Q : ρ → Out → St → Prop} (h0 : ∀ a, F 0 a = none)
    (hb : ∀ k a r, F (k + 1) a = some r → ∀ e h, evP P tb md prim b ⟨N, ov (L a) e, hov (H a) (h2 N h)⟩ fun o S => match o with
      | .nrm => ∃ a', F k a' = some r ∧ Kn N (L a') (H a') S.norm
      | o => Q r o S) {k : Nat} {a : α} {r : ρ} (h : F k a = some r) {S : St} (hS : Kn N (L a) (H a) S.norm) : W P tb md prim (.loop b) S (Q r) := by
  refine W_loop (fun n S => ∃ a, F n a = some r ∧ Kn N (L a) (H a) S.norm) (fun n S ⟨a, h, hS⟩ => ?_) k S ⟨a, h, hS⟩
  cases n with
  | zero => rw [h0] at h; cases h
  | succ n =>
    have := hb n a r h S.norm.env S.norm.h
    have hN : S.n = N := hS.1
    rw [hS.eq, norm_h2 S, hN]
    refine W_mono (evP_spec b this) fun o S' q => ?_
    cases o with
    | nrm => obtain ⟨a', h1, h2⟩ := q; exact ⟨n, Nat.lt_succ_self n, a', h1, h2⟩
    | ret => exact q
    | ex i => exact q
/-- A loop that is left at its end, or by a return. -/
theorem loopB {b : Code} {Q : Out → St → Prop} {S : St} {α ρ τ ρ' : Type} {k : Nat} {a : α} {r : ρ'} (N : Nat) (L : α → List (Nat × V)) (H : α → List (Nat × Nat × Nat × Option Ob)) (F : Nat → α → Option (ρ ⊕ τ)) {ret : ρ → Option ρ'} {rest : τ → Option ρ'}
    (en : ρ → St → Prop) (id : Nat) (Lx : τ → List (Nat × V)) (Hx : τ → List (Nat × Nat × Nat × Option Ob)) (h : lb (F k a) ret rest = some r) (h0 : ∀ a, F 0 a = none)
    (hb : ∀ k a r, F (k + 1) a = some r → ∀ e h, evP P tb md prim b ⟨N, ov (L a) e, hov (H a) (h2 N h)⟩ fun o S => match o with
      | .nrm => ∃ a', F k a' = some r ∧ Kn N (L a') (H a') S.norm
      | o => LQ (RQ en) (EQ id N Lx Hx) r o S) (hS : Kn N (L a) (H a) S.norm)
    (k1 : ∀ x S', ret x = some r → en x S' → Q .ret S') (k2 : ∀ t S', rest t = some r → Kn N (Lx t) (Hx t) S'.norm → Q (.ex id) S') : W P tb md prim (.loop b) S Q := by
  obtain ⟨r', h', h⟩ := lbS h
  refine W_mono (loopF N L H F h0 hb h' hS) fun o S' q => ?_
  cases r' with
  | inl x => obtain ⟨rfl, q⟩ := q; exact k1 x S' h q
  | inr t => obtain ⟨rfl, q⟩ := q; exact k2 t S' h q
theorem loopX {b : Code} {Q : Out → St → Prop} {S : St} {α τ ρ' : Type} {k : Nat} {a : α} {r : ρ'} (N : Nat) (L : α → List (Nat × V)) (H : α → List (Nat × Nat × Nat × Option Ob)) (F : Nat → α → Option τ) {rest : τ → Option ρ'}
    (id : Nat) (Lx : τ → List (Nat × V)) (Hx : τ → List (Nat × Nat × Nat × Option Ob)) (h : (F k a).bind rest = some r) (h0 : ∀ a, F 0 a = none)
    (hb : ∀ k a r, F (k + 1) a = some r → ∀ e h, evP P tb md prim b ⟨N, ov (L a) e, hov (H a) (h2 N h)⟩ fun o S => match o with
      | .nrm => ∃ a', F k a' = some r ∧ Kn N (L a') (H a') S.norm
      | o => EQ id N Lx Hx r o S) (hS : Kn N (L a) (H a) S.norm)
    (k2 : ∀ t S', rest t = some r → Kn N (Lx t) (Hx t) S'.norm → Q (.ex id) S') : W P tb md prim (.loop b) S Q := by
  obtain ⟨t, h', h⟩ := bindS h
  refine W_mono (loopF N L H F h0 hb h' hS) fun o S' q => ?_
  obtain ⟨rfl, q⟩ := q; exact k2 t S' h q
theorem loopR {b : Code} {Q : Out → St → Prop} {S : St} {α ρ ρ' : Type} {k : Nat} {a : α} {r : ρ'} (N : Nat) (L : α → List (Nat × V)) (H : α → List (Nat × Nat × Nat × Option Ob)) (F : Nat → α → Option ρ) {ret : ρ → Option ρ'}
    (en : ρ → St → Prop) (h : (F k a).bind ret = some r) (h0 : ∀ a, F 0 a = none)
    (hb : ∀ k a r, F (k + 1) a = some r → ∀ e h, evP P tb md prim b ⟨N, ov (L a) e, hov (H a) (h2 N h)⟩ fun o S => match o with
      | .nrm => ∃ a', F k a' = some r ∧ Kn N (L a') (H a') S.norm
      | o => RQ en r o S) (hS : Kn N (L a) (H a) S.norm)
    (k1 : ∀ x S', ret x = some r → en x S' → Q .ret S') : W P tb md prim (.loop b) S Q := by
  obtain ⟨x, h', h⟩ := bindS h
  refine W_mono (loopF N L H F h0 hb h' hS) fun o S' q => ?_
  obtain ⟨rfl, q⟩ := q; exact k1 x S' h q
theorem goS {a b : Code} {S : St} {Q : Out → St → Prop} (h : evP P tb md prim a S fun o S' => match o with
      | .nrm => evP P tb md prim b S'.norm Q
      | o => Q o S') : ∃ M : St → Prop, (evP P tb md prim a S fun o S => match o with
      | .nrm => M S.norm
      | o => Q o S) ∧ ∀ S, M S → evP P tb md prim b S Q := ⟨fun S => evP P tb md prim b S Q, h, fun _ q => q⟩
theorem seqK {a b : Code} {S : St} {Q : Out → St → Prop} (N : Nat) (L : List (Nat × V)) (H : List (Nat × Nat × Nat × Option Ob))
    (h1 : evP P tb md prim a S fun o S' => match o with
      | .nrm => Kn N L H S'.norm
      | o => Q o S')
    (h2 : ∀ e h, evP P tb md prim b ⟨N, ov L e, hov H (h2 N h)⟩ Q) : ∃ M : St → Prop, (evP P tb md prim a S fun o S => match o with
      | .nrm => M S.norm
      | o => Q o S) ∧ ∀ S, M S → evP P tb md prim b S Q := by
  refine ⟨fun S1 => ∃ S' : St, S1 = S'.norm ∧ Kn N L H S1, evP_mono a (fun o S' q => ?_) h1, ?_⟩
  · cases o with
    | nrm => exact ⟨S', rfl, q⟩
    | ret => exact q
    | ex i => exact q
  · rintro _ ⟨S', rfl, q'⟩
    have hN : S'.n = N := q'.1
    rw [q'.eq, norm_h2 S', hN]
    exact h2 _ _
/-- A state is written anew. -/
inductive Re (P : Program) (tb : Tb) (md : Md) (prim : Prim) (b : Code) (Q : Out → St → Prop) (S : St) : Prop
  | mk (N : Nat) (L : List (Nat × V)) (H : List (Nat × Nat × Nat × Option Ob)) (k : Kn N L H S.norm) (q : ∀ e h, evP P tb md prim b ⟨N, ov L e, hov H (h2 N h)⟩ Q) : Re P tb md prim b Q S
theorem goR {a b : Code} {S : St} {Q : Out → St → Prop} (h : evP P tb md prim a S fun o S' => match o with
      | .nrm => Re P tb md prim b Q S'
      | o => Q o S') : ∃ M : St → Prop, (evP P tb md prim a S fun o S => match o with
      | .nrm => M S.norm
      | o => Q o S) ∧ ∀ S, M S → evP P tb md prim b S Q := by
  refine goS (evP_mono a (fun o S' q => ?_) h)
  cases o with
  | nrm =>
    obtain ⟨N, L, H, k, q⟩ := q
    have hN : S'.n = N := k.1
    show evP P tb md prim b S'.norm Q
    rw [k.eq, norm_h2 S', hN]
    exact q _ _
  | ret => exact q
  | ex i => exact q
theorem seqJ {a b : Code} {S : St} {Q : Out → St → Prop} {α ρ : Type} {rest : α → Option ρ} {tree : (α → Option ρ) → Option ρ} {r : ρ} (h : jn rest tree = some r) (N : Nat) (L : α → List (Nat × V)) (H : α → List (Nat × Nat × Nat × Option Ob))
    (h1 : ∀ J : α → Option ρ, tree J = some r → evP P tb md prim a S fun o S' => match o with
      | .nrm => ∃ x, J x = some r ∧ Kn N (L x) (H x) S'.norm
      | o => Q o S')
    (h2 : ∀ x, rest x = some r → ∀ e h, evP P tb md prim b ⟨N, ov (L x) e, hov (H x) (h2 N h)⟩ Q) : ∃ M : St → Prop, (evP P tb md prim a S fun o S => match o with
      | .nrm => M S.norm
      | o => Q o S) ∧ ∀ S, M S → evP P tb md prim b S Q := by
  refine ⟨fun S1 => ∃ (S' : St) (x : α), S1 = S'.norm ∧ rest x = some r ∧ Kn N (L x) (H x) S1, evP_mono a (fun o S' q => ?_) (h1 rest h), ?_⟩
  · cases o with
    | nrm => obtain ⟨x, h1, h2⟩ := q; exact ⟨S', x, rfl, h1, h2⟩
    | ret => exact q
    | ex i => exact q
  · rintro _ ⟨S', x, rfl, hx, q'⟩
    have hN : S'.n = N := q'.1
    rw [q'.eq, norm_h2 S', hN]
    exact h2 x hx _ _
end Go.Ev
