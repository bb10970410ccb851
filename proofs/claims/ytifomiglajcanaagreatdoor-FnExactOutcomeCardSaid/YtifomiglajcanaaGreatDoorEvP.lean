/- The evaluator: EvP. -/
import Derived.Test.YtifomiglajcanaaGreatDoorEvW
import Derived.Test.YtifomiglajcanaaGreatDoorEvEq
set_option linter.unusedSimpArgs false
set_option linter.unusedVariables false
namespace Go.Ev
set_option linter.unusedVariables false
variable {P : Program} {tb : Tb} {md : Md} {prim : Prim}

/-! ### Where a proof has to say something -/
def optP {α : Type} (x : Option α) (k : α → Prop) : Prop := match x with
  | some v => k v
  | none => False
theorem optP_iff {α : Type} {x : Option α} {k : α → Prop} : optP x k ↔ ∃ v, x = some v ∧ k v := by
  cases x <;> simp [optP]
theorem optM {α : Type} {x : Option α} {k : α → Prop} (v : α) (h : x = some v) (q : k v) : optP x k := by rw [h]; exact q
/-- The same where nothing is to be said. -/
def goP {α : Type} (x : Option α) (k : α → Prop) : Prop := match x with
  | some v => k v
  | none => False
theorem goP_iff {α : Type} {x : Option α} {k : α → Prop} : goP x k ↔ ∃ v, x = some v ∧ k v := by
  cases x <;> simp [goP]
theorem goP_mono {α : Type} {x : Option α} {k k' : α → Prop} (h : ∀ v, k v → k' v) (q : goP x k) : goP x k' := by
  obtain ⟨v, e, q⟩ := goP_iff.1 q; exact goP_iff.2 ⟨v, e, h v q⟩
theorem optP_mono {α : Type} {x : Option α} {k k' : α → Prop} (h : ∀ v, k v → k' v) (q : optP x k) : optP x k' := by
  obtain ⟨v, e, q⟩ := optP_iff.1 q; exact optP_iff.2 ⟨v, e, h v q⟩
theorem bif_mono {t : Bool} {p p' q q' : Prop} (h : p → p') (h' : q → q') (x : bif t then p else q) : bif t then p' else q' := by cases t; exact h' x; exact h x
theorem boolM {t : Bool} {p q : Prop} (h1 : t = true → p) (h2 : t = false → q) : bif t then p else q := by cases t; exact h2 rfl; exact h1 rfl
theorem condT {t : Bool} {p q : Prop} (h : t = true) (k : p) : bif t then p else q := by rw [h]; exact k
theorem condF {t : Bool} {p q : Prop} (h : t = false) (k : q) : bif t then p else q := by rw [h]; exact k
theorem decT {c p q : Prop} [Decidable c] (h : c) (k : p) : bif decide c then p else q := by rw [decide_eq_true h]; exact k
/-- A list or a number, in the words that the proof likes. -/
structure eqP {α : Type} (x : α) (k : α → Prop) : Prop where
  get : ∀ X, X = x → k X
theorem eqM {α : Type} {x : α} {k : α → Prop} (y : α) (h : x = y) (q : k y) : eqP x k := ⟨fun X hX => by rw [hX, h]; exact q⟩
theorem eqP_mono {α : Type} {x : α} {k k' : α → Prop} (h : ∀ v, k v → k' v) (q : eqP x k) : eqP x k' := ⟨fun X hX => h X (q.get X hX)⟩
/-- An element of a list, a call's answer. -/
structure exP {α : Type} (x : Option α) (k : α → Prop) : Prop where
  get : ∃ v, x = some v ∧ k v
theorem exM {α : Type} {x : Option α} {k : α → Prop} (v : α) (h : x = some v) (q : k v) : exP x k := ⟨v, h, q⟩
theorem exP_mono {α : Type} {x : Option α} {k k' : α → Prop} (h : ∀ v, k v → k' v) (q : exP x k) : exP x k' := ⟨q.get.elim fun v e => ⟨v, e.1, h v e.2⟩⟩
/-- A bound that must hold. -/
structure andP (c p : Prop) : Prop where
  l : c
  r : p
theorem anM {c p : Prop} (h : c) (q : p) : andP c p := ⟨h, q⟩
theorem andP_mono {c p p' : Prop} (h : p → p') (q : andP c p) : andP c p' := ⟨q.l, h q.r⟩
/-- A test. -/
inductive Ask (t : Bool) (p q : Prop) : Prop
  | T (h : t = true) (k : p)
  | F (h : t = false) (k : q)
theorem Ask_mono {t : Bool} {p p' q q' : Prop} (h : p → p') (h' : q → q') : Ask t p q → Ask t p' q'
  | .T e k => .T e (h k)
  | .F e k => .F e (h' k)
theorem bifT {t : Bool} {p : Prop} (q : bif t then p else False) : t = true ∧ p := by cases t; exact q.elim; exact ⟨rfl, q⟩
/-- What is known of a flag, written into the frame. -/
def St.set (S : St) (c : Operand) (b : Bool) : St := match c with
  | .tmp t => ⟨S.n, fun j => if j = t then vB b else S.env j, S.h⟩
  | _ => S
theorem St.set_same {S : St} {c : Operand} {b : Bool} (h : S.ev c = vB b) : S.set c b = S := by
  cases c with
  | tmp t =>
    obtain ⟨n, e, hp⟩ := S
    simp only [St.set, St.mk.injEq, true_and, and_true]
    funext j
    split
    · rename_i q; subst q; exact h.symm
    · rfl
  | _ => rfl

/-! ### Operations -/
/-- Values laid open, so that what is behind looks at no more than their constructors. -/
def fVal (u : Value) (k : Value → Prop) : Prop := match u with
  | .int q n => k (.int q n)
  | .bool b => k (.bool b)
  | .string s => k (.string s)
  | u => k u
def fC (v : V) (k : V → Prop) : Prop := match v with
  | .d (.p u) => fVal u fun u => k (.d (.p u))
  | .d (.l f s xs) => k (.d (.l f s xs))
  | .own s q g => k (.own s q g)
  | .nl f s => k (.nl f s)
  | v => k v
def fL : List V → (List V → Prop) → Prop
  | [], k => k []
  | v :: vs, k => fC v fun v => fL vs fun vs => k (v :: vs)
def fV (v : V) (k : V → Prop) : Prop := match v with
  | .agg cs => fL cs fun cs => k (.agg cs)
  | .d x => fC (.d x) k
  | v => k v
theorem fVal_eq (u : Value) (k : Value → Prop) : fVal u k = k u := by cases u <;> rfl
theorem fC_eq (v : V) (k : V → Prop) : fC v k = k v := by
  cases v <;> try rfl
  rename_i x
  cases x
  · exact fVal_eq _ (fun u => k (.d (.p u)))
  · rfl
theorem fL_eq : ∀ (vs : List V) (k : List V → Prop), fL vs k = k vs
  | [], k => rfl
  | v :: vs, k => by rw [fL, fC_eq, fL_eq vs]
theorem fV_eq (v : V) (k : V → Prop) : fV v k = k v := by
  cases v <;> try rfl
  · exact fC_eq _ _
  · exact fL_eq _ _
def dfP (x : Option (V × Hp)) (k : V → Hp → Prop) : Prop := optP x fun r => fV r.1 fun v => k v r.2
theorem dfP_mono {x : Option (V × Hp)} {k k' : V → Hp → Prop} (hk : ∀ v h, k v h → k' v h) (q : dfP x k) : dfP x k' := optP_mono (fun r q => by rw [fV_eq] at q ⊢; exact hk _ _ q) q
/-- No rows, no pointers. -/
def V.dat1 : V → Bool
  | .d _ => true
  | _ => false
def V.dat : V → Bool
  | .d _ => true
  | .agg cs => cs.all V.dat1
  | _ => false
theorem homeC_dat {v : V} (h : v.dat1 = true) (s k : Nat) (hp : Hp) : homeC s k v hp = (v, hp) := by cases v <;> first | rfl | cases h
theorem homeCs_dat (s : Nat) : ∀ (vs : List V) (k : Nat) (hp : Hp), vs.all V.dat1 = true → homeCs s k vs hp = (vs, hp)
  | [], k, hp, _ => rfl
  | v :: vs, k, hp, h => by
    simp only [List.all_cons, Bool.and_eq_true] at h
    rw [homeCs, homeC_dat h.1, homeCs_dat s vs _ _ h.2]
theorem homeV_dat {a v : V} (h : v.dat = true) (hp : Hp) : homeV a v hp = (v, hp) := by
  unfold homeV
  split
  · unfold homeAt
    split
    · rw [homeCs_dat _ _ _ _ h]
    · cases v <;> first | rfl | cases h
  · rfl
def loadP (tb : Tb) (h : Hp) (t : Nat) (a : V) (k : V → Prop) : Prop := match a with
  | .ept s q g i o => match h.get s q g with
    | some (.row _ _ _ xs) => exP xs[i]? fun x => goP (partV tb t (x.map V.d) o) fun v => fV v k
    | _ => False
  | .rpt _ _ xs i o => exP xs[i]? fun x => goP (partV tb t (x.map V.d) o) fun v => fV v k
  | a => goP (loadV tb h t a) fun v => fV v k
theorem loadP_spec {h : Hp} {t : Nat} {a : V} {k : V → Prop} (q : loadP tb h t a k) : ∃ v, loadV tb h t a = some v ∧ k v := by
  unfold loadP at q
  split at q
  · rename_i s q' g i o
    split at q
    · rename_i b f sz xs hg
      obtain ⟨x, h1, h2⟩ := q.get
      obtain ⟨v, h3, h4⟩ := goP_iff.1 h2
      rw [fV_eq] at h4
      exact ⟨v, by simp only [loadV, hg, h1, Option.bind_some, h3], h4⟩
    · exact q.elim
  · obtain ⟨x, h1, h2⟩ := q.get
    obtain ⟨v, h3, h4⟩ := goP_iff.1 h2
    rw [fV_eq] at h4
    exact ⟨v, by simp only [loadV, h1, Option.bind_some, h3], h4⟩
  · obtain ⟨v, e, q⟩ := goP_iff.1 q
    rw [fV_eq] at q
    exact ⟨v, e, q⟩
/-- What is lent, laid open (names are looked up with plain numbers). -/
def Lent.open (b : Lent) (k : Bool → Nat → Nat → Nat → Nat → Nat → List V → Prop) : Prop := match b with
  | ⟨row, s, q, g, o, n, cs⟩ => k row s q g o n cs
theorem Lent.open_eq (b : Lent) (k : Bool → Nat → Nat → Nat → Nat → Nat → List V → Prop) : b.open k = k b.row b.s b.k b.g b.o b.n b.cs := by cases b; rfl
def backsP : List Lent → List T → Hp → (Hp → Prop) → Prop
  | [], [], h, k => k h
  | b :: bs, .own f sz xs :: tss, h, k => b.open fun row s q g _ _ _ => bif row then match h.get s q g with
      | some (.lentR sz' n) => bif sz == sz' then andP (xs.length = n) (backsP bs tss (h.mod s q (some (.row true f sz xs))) k) else False
      | _ => False
    else False
  | b :: bs, .ptr ts :: tss, h, k => b.open fun row s q g o n cs => bif ts.length == n && !row then match ldCells s (1000 * (q + 1) + o) ts h with
      | some (vs, h) => match h.get s q g with
        | some .lent => fL (over cs o vs) fun cs => backsP bs tss (h.mod s q (some (.box cs))) k
        | _ => False
      | none => False
    else False
  | _, _, _, _ => False
theorem backsP_spec {k : Hp → Prop} : ∀ {bs : List Lent} {ts : List T} {h : Hp}, backsP bs ts h k → ∃ h', backs bs ts h = some h' ∧ k h'
  | [], [], h, q => ⟨h, rfl, q⟩
  | [], _ :: _, h, q => q.elim
  | b :: bs, [], h, q => q.elim
  | b :: bs, .d x :: tss, h, q => q.elim
  | b :: bs, .agg x :: tss, h, q => q.elim
  | b :: bs, .lend f sz xs :: tss, h, q => q.elim
  | b :: bs, .own f sz xs :: tss, h, q => by
    simp only [backsP] at q
    rw [Lent.open_eq] at q
    obtain ⟨hb, q⟩ := bifT q
    split at q
    · rename_i sz' n hg
      obtain ⟨he, q⟩ := bifT q
      obtain ⟨h', e, r⟩ := backsP_spec q.r
      exact ⟨h', by simp only [backs, hb, if_true, hg]; rw [if_pos ⟨by simpa using he, q.l⟩]; exact e, r⟩
    · exact q.elim
  | b :: bs, .ptr us :: tss, h, q => by
    simp only [backsP] at q
    rw [Lent.open_eq] at q
    obtain ⟨hb, q⟩ := bifT q
    simp only [Bool.and_eq_true, beq_iff_eq, Bool.not_eq_true'] at hb
    split at q
    · rename_i vs h1 e1
      split at q
      · rename_i hg
        rw [fL_eq] at q
        obtain ⟨h', e, r⟩ := backsP_spec q
        exact ⟨h', by simp only [backs]; rw [if_pos hb, e1, Option.bind_some]; simp only [hg]; exact e, r⟩
      · exact q.elim
    · exact q.elim
theorem backsP_mono {k k' : Hp → Prop} (hk : ∀ h, k h → k' h) : ∀ {bs : List Lent} {ts : List T} {h : Hp}, backsP bs ts h k → backsP bs ts h k'
  | [], [], h, q => hk _ q
  | [], _ :: _, h, q => q.elim
  | b :: bs, [], h, q => q.elim
  | b :: bs, .d x :: tss, h, q => q.elim
  | b :: bs, .agg x :: tss, h, q => q.elim
  | b :: bs, .lend f sz xs :: tss, h, q => q.elim
  | b :: bs, .own f sz xs :: tss, h, q => by
    simp only [backsP] at q ⊢
    rw [Lent.open_eq] at q ⊢
    cases hb : b.row with
    | false => rw [hb] at q; exact q
    | true =>
      rw [hb] at q
      simp only [cond_true] at q ⊢
      split
      · rename_i sz' n hg
        simp only [hg] at q
        cases he : sz == sz' with
        | false => rw [he] at q; exact q
        | true => rw [he] at q; exact ⟨q.l, backsP_mono hk q.r⟩
      · rename_i hno
        split at q
        · rename_i hg; exact absurd hg (hno _ _)
        · exact q
  | b :: bs, .ptr us :: tss, h, q => by
    simp only [backsP] at q ⊢
    rw [Lent.open_eq] at q ⊢
    cases hb : us.length == b.n && !b.row with
    | false => rw [hb] at q; exact q
    | true =>
      rw [hb] at q
      simp only [cond_true] at q ⊢
      cases e1 : ldCells b.s (1000 * (b.k + 1) + b.o) us h with
      | none => simp only [e1] at q
      | some x =>
        obtain ⟨vs, h1⟩ := x
        simp only [e1] at q ⊢
        split
        · rename_i hg; simp only [hg] at q; rw [fL_eq] at q ⊢; exact backsP_mono hk q
        · rename_i hno
          split at q
          · rename_i hg; exact absurd hg hno
          · exact q
def callK (d : Option Nat) (rs : List T) (k : V → Hp → Prop) (h : Hp) : Prop := match d with
  | some d => match ldRs d 0 rs h with
    | some (vs, h) => k (tupV vs) h
    | none => False
  | none => k .u h
def callP (tb : Tb) (md : Md) (call : CallF) (g : Nat) (tys : List Nat) (vs : List V) (d : Option Nat) (h : Hp) (k : V → Hp → Prop) : Prop :=
  match argTs tb (md g).1 0 tys vs h with
  | some (ts, h, shown, lent) =>
    bif shown.all (fun (s, k) => ownAt h s k) then
      exP (call g ts) fun (rs, ps) =>
      bif T.sharesL rs || T.sharesL ps then backsP lent ps (freezes shown h) (callK d rs k) else backsP lent ps h (callK d rs k)
    else False
  | none => False
theorem callK_eq {c : Bool} {l : List Lent} {ps : List T} {h h' : Hp} {K : Hp → Prop} : (bif c then backsP l ps h K else backsP l ps h' K) = backsP l ps (bif c then h else h') K := by cases c <;> rfl
theorem callP_spec {call : CallF} {g : Nat} {tys : List Nat} {vs : List V} {d : Option Nat} {h : Hp} {k : V → Hp → Prop} (q : callP tb md call g tys vs d h k) : ∃ v h', callV tb md call g tys vs d h = some (v, h') ∧ k v h' := by
  unfold callP at q
  cases e1 : argTs tb (md g).1 0 tys vs h with
  | none => simp only [e1] at q
  | some x =>
    obtain ⟨ts, h1, shown, lent⟩ := x
    simp only [e1] at q
    obtain ⟨hs, q⟩ := bifT q
    obtain ⟨⟨rs, ps⟩, e2, q⟩ := q.get
    simp only at q
    rw [callK_eq] at q
    simp only [callV, e1, Option.bind_some]
    rw [if_pos hs]
    simp only [e2, Option.bind_some]
    have hc : (bif T.sharesL rs || T.sharesL ps then freezes shown h1 else h1) = if T.sharesL rs || T.sharesL ps then freezes shown h1 else h1 := by
      cases T.sharesL rs || T.sharesL ps <;> rfl
    rw [← hc]
    obtain ⟨h2, e3, q⟩ := backsP_spec q
    unfold callK at q
    rw [e3, Option.bind_some]
    cases d with
    | none => exact ⟨_, _, rfl, q⟩
    | some d =>
      simp only at q ⊢
      cases e4 : ldRs d 0 rs h2 with
      | none => simp only [e4] at q
      | some x =>
        obtain ⟨vs', h3⟩ := x
        simp only [e4] at q
        exact ⟨tupV vs', h3, by simp only [Option.map_some], q⟩
def keepP (call : CallF) (g : Nat) (ks : List Nat) (vs : List V) (d : Option Nat) (h : Hp) (k : V → Hp → Prop) : Prop :=
  match vs, d with
  | .ptr s q gg 0 :: rest, some d => match h.get s q gg with
    | some (.box cs) => match toTs rest with
      | some rs => match outCells (keepT ks 0 cs) h with
        | some (ts, h1) => exP (call (g + 1000000) (.ptr ts :: rs)) fun (os, ps) =>
          match os, ps with
          | [o], [.ptr us] => bif us.length == cs.length && toksOk ks 0 us then match o.toV with
            | some v => match ldCells s (1000 * (q + 1)) us (h1.mod s q (some .lent)) with
              | some (ws, h2) => fV v fun v => fL (unkeep ks 0 cs ws) fun cs => k v (h2.mod s q (some (.box cs)))
              | none => False
            | none => False
            else False
          | _, _ => False
        | none => False
      | none => False
    | _ => False
  | _, _ => False
theorem keepP_spec {call : CallF} {g : Nat} {ks : List Nat} {vs : List V} {d : Option Nat} {h : Hp} {k : V → Hp → Prop} (q : keepP call g ks vs d h k) : ∃ v h', keepV call g ks vs d h = some (v, h') ∧ k v h' := by
  unfold keepP at q
  unfold keepV
  split at q
  case h_2 => exact q.elim
  split at q
  case h_2 => exact q.elim
  rename_i cs hbox
  split at q
  case h_2 => exact q.elim
  rename_i rs hrs
  split at q
  case h_2 => exact q.elim
  rename_i ts h1 ho
  obtain ⟨⟨os, ps⟩, e2, q⟩ := q.get
  simp only at q
  split at q
  case h_2 => exact q.elim
  obtain ⟨hs, q⟩ := bifT q
  split at q
  case h_2 => exact q.elim
  rename_i v hv
  split at q
  case h_2 => exact q.elim
  rename_i ws h2 hld
  rw [fV_eq, fL_eq] at q
  simp only [Bool.and_eq_true, beq_iff_eq] at hs
  exact ⟨v, _, by simp only [hbox, hrs, ho, e2, Option.bind_some, hv, hld]; rw [if_pos hs], q⟩
theorem keepP_mono {call : CallF} {g : Nat} {ks : List Nat} {vs : List V} {d : Option Nat} {h : Hp} {k k' : V → Hp → Prop} (hk : ∀ v h, k v h → k' v h) (q : keepP call g ks vs d h k) : keepP call g ks vs d h k' := by
  unfold keepP at q ⊢
  split at q
  case h_2 => exact q.elim
  split at q
  case h_2 => exact q.elim
  rename_i cs hbox
  split at q
  case h_2 => exact q.elim
  rename_i rs hrs
  split at q
  case h_2 => exact q.elim
  rename_i ts h1 ho
  refine exP_mono (fun x q => ?_) q
  obtain ⟨os, ps⟩ := x
  simp only at q ⊢
  split at q
  case h_2 => exact q.elim
  refine bif_mono (fun q => ?_) _root_.id q
  split at q
  case h_2 => exact q.elim
  rename_i v hv
  split at q
  case h_2 => exact q.elim
  rename_i ws h2 hld
  rw [fV_eq, fL_eq] at q ⊢
  exact hk _ _ q
/-- A part of a list. -/
def sliceP (tb : Tb) (h : Hp) (e d : Nat) (x : V) (lo hi mx : Option V) (k : V → Hp → Prop) : Prop :=
  match rowOf h x with
  | some (f, sz, xs) =>
    match (match lo with | some v => v.int? | none => some 0), (match hi with | some v => v.int? | none => some (xs.length : Int)), mx with
    | some l, some r, none =>
      bif (tb e).isSome && sz == szOf tb e then andP (0 ≤ l ∧ l ≤ r ∧ r ≤ xs.length) (
        match x, lo with
        | .own s q g, none => match h.get s q g with
          | some (.row true f sz xs) => eqP (xs.take r.toNat) fun X => k (.own d 0 (((h.mod s q none) d 0).1 + 1)) ((h.mod s q none).new d 0 (.row true f sz X))
          | _ => eqP (xs.take r.toNat) fun X => k (.d (.l f sz X)) h
        | .own s q g, some _ => eqP ((xs.take r.toNat).drop l.toNat) fun X => k (.d (.l f sz X)) (h.mod s q (some (.row false f sz xs)))
        | _, _ => eqP ((xs.take r.toNat).drop l.toNat) fun X => k (.d (.l f sz X)) h)
      else False
    | _, _, _ => False
  | none => False
theorem sliceP_spec {h : Hp} {e d : Nat} {x : V} {lo hi mx : Option V} {k : V → Hp → Prop} (q : sliceP tb h e d x lo hi mx k) : ∃ v h', sliceV tb h e d x lo hi mx = some (v, h') ∧ k v h' := by
  unfold sliceP at q
  split at q
  case h_2 => exact q.elim
  rename_i f sz xs hr
  split at q
  case h_2 => exact q.elim
  rename_i l r h1 h2
  obtain ⟨q1, q⟩ := bifT q
  obtain ⟨q2, q⟩ := q
  simp only [Bool.and_eq_true, beq_iff_eq] at q1
  unfold sliceV
  simp only [hr]
  split
  case h_2 hno => exact (hno l r h1 h2 rfl).elim
  rename_i l' r' g1 g2 _
  obtain rfl : l = l' := Option.some.inj (h1.symm.trans g1)
  obtain rfl : r = r' := Option.some.inj (h2.symm.trans g2)
  rw [if_pos ⟨q1.1, q1.2, q2.1, q2.2.1, q2.2.2⟩]
  split at q
  · split at q
    · rename_i hg; simp only [hg]; exact ⟨_, _, rfl, q.get _ rfl⟩
    · rename_i hg
      refine ⟨_, _, ?_, q.get _ rfl⟩
      simp only
  · exact ⟨_, _, rfl, q.get _ rfl⟩
  · rename_i hx hy
    replace q := q.get _ rfl
    cases x with
    | own s g i => cases lo with
      | none => exact (hx _ _ _ rfl rfl).elim
      | some v => exact (hy _ _ _ v rfl rfl).elim
    | _ => exact ⟨_, _, rfl, (by assumption)⟩
def sliceMP (tb : Tb) (h : Hp) (e : Nat) (x : V) (lo hi mx : Option V) (k : V → Hp → Prop) : Prop :=
  match rowOf h x, lo, hi.bind V.int?, mx.bind V.int? with
  | some (f, sz, xs), none, some r, some m =>
    bif (tb e).isSome && sz == szOf tb e then andP (0 ≤ r ∧ r ≤ m ∧ m ≤ xs.length) (
      match x with
      | .own s q g => eqP (xs.take r.toNat) fun X => k (.d (.l f sz X)) (h.mod s q (some (.row false f sz xs)))
      | _ => eqP (xs.take r.toNat) fun X => k (.d (.l f sz X)) h) else False
  | _, _, _, _ => False
theorem sliceMP_spec {h : Hp} {e : Nat} {x : V} {lo hi mx : Option V} {k : V → Hp → Prop} (q : sliceMP tb h e x lo hi mx k) : ∃ v h', sliceM tb h e x lo hi mx = some (v, h') ∧ k v h' := by
  unfold sliceMP at q
  unfold sliceM
  split at q
  · rename_i f sz xs r m h1 h2 h3
    obtain ⟨q1, q2, q⟩ := bifT q
    simp only [Bool.and_eq_true, beq_iff_eq] at q1
    simp only [h1, h2, h3]
    rw [if_pos ⟨q1.1, q1.2, q2.1, q2.2.1, q2.2.2⟩]
    split at q
    · exact ⟨_, _, rfl, q.get _ rfl⟩
    · rename_i hx
      split
      · rename_i s q' g; exact (hx s q' g rfl).elim
      · exact ⟨_, _, rfl, q.get _ rfl⟩
  · exact q.elim
theorem sliceMP_mono {h : Hp} {e : Nat} {x : V} {lo hi mx : Option V} {k k' : V → Hp → Prop} (hk : ∀ v h, k v h → k' v h) (q : sliceMP tb h e x lo hi mx k) : sliceMP tb h e x lo hi mx k' := by
  unfold sliceMP at q ⊢
  split
  · rename_i f sz xs r m h1 h2 h3
    simp only [h1, h2, h3] at q
    refine bif_mono (andP_mono fun q => ?_) _root_.id q
    cases x <;> exact eqP_mono (fun X => hk _ _) q
  · rename_i hno
    split at q
    · rename_i h1 h2 h3; exact (hno _ _ _ _ _ h1 rfl h2 h3).elim
    · exact q
/-- A byte of a string. -/
theorem sc_index {t : Nat} {s : ByteArray} {kk : IntKind} {i : Int} {b : UInt8} (hu : P.underlying t = some .string) (h : (bif decide (0 ≤ i) then s[i.toNat]? else none) = some b) : sc P (Instr.index t (.string s) (.int kk i)) = some (.d (.p (.int .u8 b.toNat))) := by
  have h' : (if 0 ≤ i then s[i.toNat]? else none) = some b := by
    by_cases q : 0 ≤ i
    · rw [if_pos q]; simpa [q] using h
    · simp [q] at h
  have e : pureRun P (Instr.index t (.string s) (.int kk i)) = some (.int .u8 b.toNat) := by
    change pureRun P (Sem.bind (match P.underlying t with | some d => pure d | none => stuck "no such type") _) = _
    rw [hu]
    change pureRun P (match (if 0 ≤ i then s[i.toNat]? else none) with
        | some b => (pure (Value.int .u8 b.toNat) : Sem Value)
        | none => boundsPanic kk i s.size .index) = _
    rw [h']
    rfl
  unfold sc
  rw [e]
  rfl
/-- A part of a string. -/
def strP (s : ByteArray) (lo hi : Option V) (k : V → Prop) : Prop :=
  match (match lo with | some v => v.int? | none => some 0), (match hi with | some v => v.int? | none => some (s.size : Int)) with
  | some l, some r => andP (0 ≤ l ∧ l ≤ r ∧ r ≤ s.size) (k (.d (.p (.string (s.extract l.toNat r.toNat)))))
  | _, _ => False
/-- A cell put somewhere. -/
def storeP (tb : Tb) (h : Hp) (t : Nat) (a x : V) (k : Hp → Prop) : Prop := match a with
  | .ept s q g i o => bif (tb t).isSome && Nat.beq ((x.fix (elSz tb t)).cells).length (szOf tb t) && ((x.fix (elSz tb t)).cells).all V.cellOk then match toDs ((x.fix (elSz tb t)).cells) h with
    | some (ys, h) => match h.get s q g with
      | some (.row true f sz xs) => exP xs[i]? fun e => bif Nat.ble (o + ys.length) e.length then eqP (xs.set i (over e o ys)) fun X => k (h.mod s q (some (.row true (f && ys.all D.isP) sz X))) else False
      | _ => False
    | none => False else False
  | .ptr s q g o => fV (x.fix (elSz tb t)) fun y => bif (tb t).isSome && Nat.beq y.cells.length (szOf tb t) && y.cells.all V.cellOk then match h.get s q g with
    | some (.box ds) => bif Nat.ble (o + y.cells.length) ds.length then fL (over ds o y.cells) fun cs => k (h.mod s q (some (.box cs))) else False
    | _ => False else False
  | a => goP (storeV tb h t a x) k
theorem storeP_spec {h : Hp} {t : Nat} {a x : V} {k : Hp → Prop} (q : storeP tb h t a x k) : ∃ h', storeV tb h t a x = some h' ∧ k h' := by
  unfold storeP at q
  split at q
  · rename_i s q' g i o
    obtain ⟨h1, q⟩ := bifT q
    simp only [Bool.and_eq_true] at h1
    have h2 := Nat.eq_of_beq_eq_true h1.1.2
    split at q
    · rename_i ys h0 e1
      split at q
      · rename_i f sz xs hg
        obtain ⟨e, e2, q⟩ := q.get
        obtain ⟨h3, q⟩ := bifT q
        refine ⟨_, ?_, q.get _ rfl⟩
        simp only [storeV]
        rw [if_pos ⟨h1.1.1, h2, h1.2⟩]
        simp only [e1, Option.bind_some, hg, e2]
        rw [if_pos (Nat.le_of_ble_eq_true h3)]
      · exact q.elim
    · exact q.elim
  · rename_i s q' g o
    rw [fV_eq] at q
    obtain ⟨h1, q⟩ := bifT q
    simp only [Bool.and_eq_true] at h1
    have h2 := Nat.eq_of_beq_eq_true h1.1.2
    split at q
    · rename_i ds hg
      obtain ⟨h3, q⟩ := bifT q
      rw [fL_eq] at q
      refine ⟨_, ?_, q⟩
      simp only [storeV]
      rw [if_pos ⟨h1.1.1, h2, h1.2⟩]
      simp only [hg]
      rw [if_pos (Nat.le_of_ble_eq_true h3)]
    · exact q.elim
  · exact goP_iff.1 q
theorem storeP_mono {h : Hp} {t : Nat} {a x : V} {k k' : Hp → Prop} (hk : ∀ h, k h → k' h) (q : storeP tb h t a x k) : storeP tb h t a x k' := by
  unfold storeP at q ⊢
  cases a with
  | ept s g' g i o =>
    simp only at q ⊢
    refine bif_mono (fun q => ?_) _root_.id q
    cases e1 : toDs ((x.fix (elSz tb t)).cells) h with
    | none => simp only [e1] at q
    | some p =>
      obtain ⟨ys, h0⟩ := p
      simp only [e1] at q ⊢
      split
      · rename_i hg; simp only [hg] at q; exact exP_mono (fun e => bif_mono (eqP_mono fun X => hk _) _root_.id) q
      · rename_i hno
        split at q
        · rename_i hg; exact (hno _ _ _ hg).elim
        · exact q
  | ptr s q' g o =>
    simp only at q ⊢
    rw [fV_eq] at q ⊢
    refine bif_mono (fun q => ?_) _root_.id q
    split
    · rename_i hg
      simp only [hg] at q
      refine bif_mono (fun q => ?_) _root_.id q
      rw [fL_eq] at q ⊢
      exact hk _ q
    · rename_i hno
      split at q
      · rename_i hg; exact (hno _ hg).elim
      · exact q
  | _ => exact goP_mono hk q
/-- A new list of zeros. -/
def mkP (tb : Tb) (h : Hp) (e d : Nat) (l c : V) (k : V → Hp → Prop) : Prop := match tb e, l.val1, c.val1 with
  | some ie, some (.int _ n), some (.int _ m) => bif decide (0 < ie.sz) then andP (n = m ∧ 0 ≤ n ∧ ie.by_ * n ≤ 140737488355328 ∧ n ≤ 140737488355328) (
      eqP (List.replicate n.toNat (ie.z.map zD)) fun X => k (.own d 0 ((h d 0).1 + 1)) (h.new d 0 (.row true ie.fl ie.sz X))) else False
  | _, _, _ => False
def aliveP (h : Hp) (v : V) (p : Prop) : Prop := match v with
  | .ept s q g i _ => match h.get s q g with
    | some (.row _ _ _ xs) => andP (i < xs.length) p
    | _ => False
  | v => bif alive h v then p else False
theorem aliveP_spec {h : Hp} {v : V} {p : Prop} (q : aliveP h v p) : alive h v = true ∧ p := by
  unfold aliveP at q
  split at q
  · split at q
    · rename_i hg; obtain ⟨a, b⟩ := q; exact ⟨by simp only [alive, hg]; simpa using a, b⟩
    · exact q.elim
  · exact bifT q
theorem aliveP_mono {h : Hp} {v : V} {p p' : Prop} (hk : p → p') (q : aliveP h v p) : aliveP h v p' := by
  obtain ⟨a, b⟩ := aliveP_spec q
  unfold aliveP
  split
  · split
    · rename_i hg; simp only [alive, hg] at a; exact ⟨by simpa using a, hk b⟩
    · rename_i hno; unfold alive at a; simp only at a; cases a
  · rw [a]; exact hk b
def fieldP (tb : Tb) (h : Hp) (st f : Nat) (v : V) (k : V → Prop) : Prop := match tb st with
  | some ⟨_, _, .st fs, _⟩ => match fs[f]? with
    | some (off, ft) => bif Nat.beq (szOf tb ft) 0 then False else aliveP h v (k (v.plus off))
    | none => False
  | _ => False
def lenP (tb : Tb) (h : Hp) (x : V) (k : V → Prop) : Prop := match rowOf h x with
  | some (_, _, xs) => eqP (xs.length : Int) fun n => k (.d (.p (.int .i64 n)))
  | none => False
def buildP (tb : Tb) (e d len : Nat) (ρ : Operand → V) (parts : List (Nat × Operand)) (h : Hp) (k : V → Hp → Prop) : Prop := match tb e with
  | some ie => bif decide (0 < ie.sz ∧ len * ie.sz ≤ 16777216) then match fillS tb e ρ parts (List.replicate len ie.z) with
    | some rows => match toDss rows h with
      | some (xs, h) => eqP xs fun X => k (.own d 0 ((h d 0).1 + 1)) (h.new d 0 (.row true (ie.fl && xs.all fun x => x.all D.isP) ie.sz X))
      | none => False
    | none => False else False
  | none => False
theorem sc_add {t : Nat} {x y : Operand} {a b : ByteArray} (h : a.size + b.size ≤ 9223372036854775807) : sc P (do eqGuard .add t x y (.string a) (.string b); binOp .add t (.string a) (.string b)) = some (.d (.p (.string (a ++ b)))) := by
  have h' : ¬ ((a.size + b.size : Nat) : Int) > IntKind.i64.max := by
    have : IntKind.i64.max = 9223372036854775807 := rfl
    omega
  have e : pureRun P (if ((a.size + b.size : Nat) : Int) > IntKind.i64.max then unsupported (.resourceLimit "string concatenation: a sum of the lengths that is no int") else (pure (.string (a ++ b)) : Sem Value)) = some (.string (a ++ b)) := by
    rw [if_neg h']; rfl
  unfold sc
  change Option.bind (pureRun P (if ((a.size + b.size : Nat) : Int) > IntKind.i64.max then unsupported (.resourceLimit "string concatenation: a sum of the lengths that is no int") else (pure (.string (a ++ b)) : Sem Value))) V.of = _
  rw [e]; rfl
theorem sc_div {t : Nat} {x y : Operand} {k : IntKind} {a b : Int} {op : BinOp} {v : Value} (ho : op = .quo ∧ v = .int k (k.wrap (a.tdiv b)) ∨ op = .rem ∧ v = .int k (a.tmod b)) (h : b ≠ 0) :
    sc P (do eqGuard op t x y (.int k a) (.int k b); binOp op t (.int k a) (.int k b)) = some (.d (.p v)) := by
  have e : (do eqGuard op t x y (.int k a) (.int k b); binOp op t (.int k a) (.int k b) : Sem Value) = pure v := by
    rcases ho with ⟨rfl, rfl⟩ | ⟨rfl, rfl⟩ <;> simp [eqGuard, binOp, Op.intDiv, h] <;> rfl
  unfold sc
  rw [e]
  rcases ho with ⟨rfl, rfl⟩ | ⟨rfl, rfl⟩ <;> rfl
theorem run_bound {k : IntKind} {n : Int} {m : Nat} {c : BoundsCode} (h0 : 0 ≤ n) (h1 : n ≤ m) : Instr.sliceBound (.int k n) m c = pure n.toNat := by
  unfold Instr.sliceBound
  simp [asIntOf, h0, h1]
theorem sc_slice {t : Nat} {s : ByteArray} (hu : P.underlying t = some .string) {lo hi : Option Value} {l r : Int} (hl : (lo = none ∧ l = 0) ∨ ∃ k, lo = some (.int k l)) (hr : (hi = none ∧ r = s.size) ∨ ∃ k, hi = some (.int k r)) (h0 : 0 ≤ l) (h1 : l ≤ r) (h2 : r ≤ s.size) :
    sc P (Instr.sliceAt t (.string s) lo hi none) = some (.d (.p (.string (s.extract l.toNat r.toNat)))) := by
  have hb : Instr.sliceBounds false s.size s.size lo hi none = pure (l.toNat, r.toNat, s.size) := by
    have g1 : ∀ k c, Instr.sliceBound (.int k r) s.size c = pure r.toNat := fun k c => run_bound (by omega) h2
    have g2 : ∀ k c, Instr.sliceBound (.int k l) r.toNat c = pure l.toNat := fun k c => run_bound h0 (by omega)
    unfold Instr.sliceBounds
    rcases hr with ⟨rfl, rfl⟩ | ⟨k, rfl⟩ <;> rcases hl with ⟨rfl, rfl⟩ | ⟨k', rfl⟩
    · simp
    · have := g2 k'; simp at this; simp [this]
    · simp [g1]
    · simp [g1, g2]
  have e : pureRun P (Instr.sliceAt t (.string s) lo hi none) = some (.string (s.extract l.toNat r.toNat)) := by
    unfold Instr.sliceAt
    change pureRun P (Sem.bind (match P.underlying t with | some d => pure d | none => stuck "no such type") _) = _
    rw [hu]
    change pureRun P (Instr.slice t (.string s) lo hi none) = _
    unfold Instr.slice
    change pureRun P (Sem.bind (match P.underlying t with | some d => pure d | none => stuck "no such type") _) = _
    rw [hu]
    change pureRun P (Sem.bind (Instr.sliceBounds false s.size s.size lo hi none) _) = _
    rw [hb]; rfl
  unfold sc
  rw [e]; rfl
def execP (P : Program) (tb : Tb) (md : Md) (call : CallF) (o : Oper) (ρ : Operand → V) (h : Hp) (k : V → Hp → Prop) : Prop :=
  match o.op with
  | .move x => bif (ρ x).dat then fV (ρ x) fun v => k v h else dfP (exec P tb md call o ρ h) k
  | .assign x => bif (ρ x).dat then fV (ρ x) fun v => k v h else dfP (exec P tb md call o ρ h) k
  | .alloc e => match tb e with
    | some i => bif i.z.all V.dat1 then k (.ptr (o.dst.getD 0) 0 ((h (o.dst.getD 0) 0).1 + 1) 0) (h.new (o.dst.getD 0) 0 (.box i.z)) else dfP (exec P tb md call o ρ h) k
    | none => dfP (exec P tb md call o ρ h) k
  | .load t a => loadP tb h t (ρ a) fun v => k v h
  | .store t a x => bif ((ρ x).fix (elSz tb t)).dat then storeP tb h t (ρ a) ((ρ x).fix (elSz tb t)) fun h => k .u h else storeP tb (homeV (ρ a) ((ρ x).fix (elSz tb t)) h).2 t (ρ a) (homeV (ρ a) ((ρ x).fix (elSz tb t)) h).1 fun h => k .u h
  | .fieldAddr st x f => fieldP tb h st f (ρ x) fun v => k v h
  | .convert src dst x => match tb src with
    | some ⟨_, _, .sl e, _⟩ => match P.underlying e, P.underlying dst, rowOf h (ρ x) with
      | some (.int .u8), some .string, some (_, 1, xs) => exP (numsOf xs) fun ns => k (.d (.p (.string (strOfNums ns)))) h
      | _, _, _ => False
    | _ => dfP (exec P tb md call o ρ h) k
  | .nilCheck x => aliveP h (ρ x) (k (ρ x) h)
  | .makeSlice t l c => match tb t with
    | some ⟨_, _, .sl e, _⟩ => mkP tb h e (o.dst.getD 0) (ρ l) (ρ c) k
    | _ => False
  | .buildSlice t len parts => match tb t with
    | some ⟨_, _, .sl e, _⟩ => buildP tb e (o.dst.getD 0) len ρ parts.toList h k
    | _ => False
  | .call ⟨.builtin .len, args, tys⟩ => match args.toList, tys.toList with
    | [x], [t] => match tb t with
      | some ⟨_, _, .sl _, _⟩ => lenP tb h (ρ x) fun v => k v h
      | _ => dfP (exec P tb md call o ρ h) k
    | _, _ => False
  | .pick c a b => match ρ c with
    | .d (.p (.bool t)) => Ask t (k (ρ a) h) (k (ρ b) h)
    | _ => False
  | .indexAddr t x ix => match tb t, rowOf h (ρ x), (ρ ix).val1 with
    | some ⟨_, _, .sl e, _⟩, some (f, sz, xs), some (.int _ i) =>
      bif (tb e).isSome && sz == szOf tb e then andP (0 ≤ i ∧ i < xs.length) (k ((ρ x).idx f sz xs i.toNat) h) else False
    | _, _, _ => False
  | .index t x ix => match (ρ x).val1, (ρ ix).val1 with
    | some (.string s), some (.int _ i) => match P.underlying t with
      | some .string => exP (bif decide (0 ≤ i) then s[i.toNat]? else none) fun b => k (.d (.p (.int .u8 b.toNat))) h
      | _ => False
    | _, _ => False
  | .slice t x lo hi mx => match tb t with
    | some ⟨_, _, .sl e, _⟩ => match mx with
      | none => sliceP tb h e (o.dst.getD 0) (ρ x) (lo.map ρ) (hi.map ρ) none k
      | some m => sliceMP tb h e (ρ x) (lo.map ρ) (hi.map ρ) (some (ρ m)) k
    | some ⟨_, _, .sc, _⟩ => match ρ x, P.underlying t, mx with
      | .d (.p (.string s)), some .string, none => strP s (lo.map ρ) (hi.map ρ) fun v => k v h
      | _, _, _ => False
    | _ => False
  | .binOp .eql xT x y _ => match tb xT with
    | some ⟨_, _, .st _, _⟩ => match ρ x, ρ y with
      | .agg cs, .agg ds => match eqVs cs ds with
        | some (ks, b) => andP (flatEq P xT = some ks) (k (.d (.p (.bool b))) h)
        | none => False
      | _, _ => False
    | _ => dfP (exec P tb md call o ρ h) k
  | .binOp .neq xT x y _ => match tb xT with
    | some ⟨_, _, .st _, _⟩ => match ρ x, ρ y with
      | .agg cs, .agg ds => match eqVs cs ds with
        | some (ks, b) => andP (flatEq P xT = some ks) (k (.d (.p (.bool (!b)))) h)
        | none => False
      | _, _ => False
    | _ => dfP (exec P tb md call o ρ h) k
  | .binOp .quo xT x y _ => match ρ x, ρ y with
    | .d (.p (.int q a)), .d (.p (.int q' b)) => bif decide (q = q') then andP (b ≠ 0) (k (.d (.p (.int q (q.wrap (a.tdiv b))))) h) else False
    | _, _ => False
  | .binOp .rem xT x y _ => match ρ x, ρ y with
    | .d (.p (.int q a)), .d (.p (.int q' b)) => bif decide (q = q') then andP (b ≠ 0) (k (.d (.p (.int q (a.tmod b)))) h) else False
    | _, _ => False
  | .binOp .add xT x y _ => match ρ x, ρ y with
    | .d (.p (.string a)), .d (.p (.string b)) => andP (a.size + b.size ≤ 9223372036854775807) (k (.d (.p (.string (a ++ b)))) h)
    | _, _ => dfP (exec P tb md call o ρ h) k
  | .call ⟨.value f, args, tys⟩ => match ρ f with
    | .d (.p (.func (.func g) first captured)) => bif first.size == 0 && captured.size == 0 && args.size == tys.size && Nat.blt g 1000000 then (bif (keepL md g).isEmpty then (bif (homeL md g).isEmpty || homedAll h (args.toList.map ρ) && outOk tb (outL md g) (fixTys md g tys.toList) (args.toList.map ρ) then callP tb md call g (fixTys md g tys.toList) (args.toList.map ρ) o.dst h k else False) else keepP call g (keepL md g) (args.toList.map ρ) o.dst h k) else False
    | _ => False
  | .call ⟨.builtin .append, args, tys⟩ => match args.toList, tys.toList with
      | [x, y], [t, t'] => match tb t with
        | some ⟨_, _, .sl e, _⟩ => bif t' == t then (match tb e with
            | some ie => match (ρ x).fix ie.q, rowOf h ((ρ y).fix ie.q) with
              | .nl _ _, some (f', sz', ys) => bif sz' == ie.sz && decide (0 < ie.sz) && decide (0 < ie.by_) then andP (ys.length * ie.by_ ≤ 140737488355328) (eqP ys fun X => k (.own (o.dst.getD 0) 0 ((h (o.dst.getD 0) 0).1 + 1)) (h.new (o.dst.getD 0) 0 (.row true f' sz' X))) else False
              | .own s q g, some (f', sz', ys) => match h.get s q g with
                | some (.row true f sz xs) => bif sz == ie.sz && sz' == ie.sz && decide (0 < ie.sz) && decide (0 < ie.by_) && (ρ y).notTok s q then andP ((xs.length + ys.length) * ie.by_ ≤ 140737488355328) (
                    eqP (xs ++ ys) fun X => k (.own (o.dst.getD 0) 0 (((h.mod s q none) (o.dst.getD 0) 0).1 + 1)) ((h.mod s q none).new (o.dst.getD 0) 0 (.row true (f && f') sz X))) else False
                | _ => False
              | _, _ => False
            | none => False) else False
        | _ => False
      | _, _ => False
  | _ => dfP (exec P tb md call o ρ h) k
theorem int?_val {v : V} {n : Int} (h : v.int? = some n) : ∃ k, v.val1 = some (.int k n) := by
  unfold V.int? at h
  split at h
  · cases h; exact ⟨_, rfl⟩
  · cases h
theorem execP_spec {call : CallF} {o : Oper} {ρ : Operand → V} {h : Hp} {k : V → Hp → Prop} (q : execP P tb md call o ρ h k) : ∃ v h', exec P tb md call o ρ h = some (v, h') ∧ k v h' := by
  obtain ⟨dst, op, type, pos, after, guard⟩ := o
  have dflt : dfP (exec P tb md call ⟨dst, op, type, pos, after, guard⟩ ρ h) k → ∃ v h', exec P tb md call ⟨dst, op, type, pos, after, guard⟩ ρ h = some (v, h') ∧ k v h' := fun q => by
    obtain ⟨⟨v, h'⟩, e, q⟩ := optP_iff.1 q
    rw [fV_eq] at q
    exact ⟨v, h', e, q⟩
  cases op
  case move x =>
    simp only [execP] at q
    cases hd : (ρ x).dat with
    | true =>
      rw [hd] at q
      rw [cond_true, fV_eq] at q
      refine ⟨ρ x, h, ?_, q⟩
      simp only [exec]
      cases hx : ρ x <;> rw [hx] at hd <;> first | rfl | cases hd
    | false => rw [hd] at q; exact dflt q
  case assign x =>
    simp only [execP] at q
    cases hd : (ρ x).dat with
    | true =>
      rw [hd] at q
      rw [cond_true, fV_eq] at q
      refine ⟨ρ x, h, ?_, q⟩
      simp only [exec]
      cases hx : ρ x <;> rw [hx] at hd <;> first | rfl | cases hd
    | false => rw [hd] at q; exact dflt q
  case alloc e =>
    simp only [execP] at q
    split at q
    · rename_i i hi
      cases hd : i.z.all V.dat1 with
      | true =>
        rw [hd] at q
        exact ⟨_, _, by simp only [exec, hi, Option.map_some, homeCs_dat _ _ _ _ hd], q⟩
      | false => rw [hd] at q; exact dflt q
    · exact dflt q
  case load t a =>
    obtain ⟨v, h1, h2⟩ := loadP_spec q
    exact ⟨v, h, by simp [exec, h1], h2⟩
  case store t a x =>
    simp only [execP] at q
    cases hd : ((ρ x).fix (elSz tb t)).dat with
    | true =>
      rw [hd] at q
      obtain ⟨h', h1, h2⟩ := storeP_spec q
      exact ⟨_, h', by simp only [exec, homeV_dat hd, h1, Option.map_some], h2⟩
    | false =>
      rw [hd] at q
      obtain ⟨h', h1, h2⟩ := storeP_spec q
      exact ⟨_, h', by simp [exec, h1], h2⟩
  case nilCheck x =>
    obtain ⟨a, b⟩ := aliveP_spec q
    exact ⟨_, h, by simp only [exec]; rw [if_pos a], b⟩
  case fieldAddr st x f =>
    simp only [execP] at q
    unfold fieldP at q
    split at q
    · rename_i fs z ht
      split at q
      · rename_i off ft hf
        cases hz : Nat.beq (szOf tb ft) 0 with
        | true => rw [hz] at q; exact q.elim
        | false =>
          rw [hz] at q
          obtain ⟨a, b⟩ := aliveP_spec q
          refine ⟨_, h, ?_, b⟩
          simp only [exec, ht, hf]
          rw [if_neg (fun e => by rw [e] at hz; cases hz), if_pos a]
      · exact q.elim
    · exact q.elim
  case convert src dst' x =>
    simp only [execP] at q
    split at q
    · rename_i e z ht
      split at q
      · rename_i f xs h1 h2 h3
        obtain ⟨ns, h4, q⟩ := q.get
        exact ⟨_, h, by simp only [exec, ht, h1, h2, h3, h4, Option.map_some], q⟩
      · exact q.elim
    · exact dflt q
  case makeSlice t l c =>
    simp only [execP] at q
    split at q
    · rename_i e _ ht
      unfold mkP at q
      split at q
      · rename_i ie kn n km m h1 h2 h3
        obtain ⟨hb, q⟩ := bifT q
        obtain ⟨hd, q⟩ := q
        have hb := of_decide_eq_true hb
        simp only [exec, ht, h1, h2, h3]
        rw [if_pos ⟨hd.1, hd.2.1, hb, hd.2.2⟩]
        exact ⟨_, _, rfl, q.get _ rfl⟩
      · exact q.elim
    · exact q.elim
  case buildSlice t len parts =>
    simp only [execP] at q
    split at q
    · rename_i e _ ht
      unfold buildP at q
      cases hie : tb e with
      | none => simp only [hie] at q
      | some ie =>
        simp only [hie] at q
        obtain ⟨hb, q⟩ := bifT q
        have hb := of_decide_eq_true hb
        cases h1 : fillS tb e ρ parts.toList (List.replicate len ie.z) with
        | none => simp only [h1] at q
        | some rows =>
          simp only [h1] at q
          cases h2 : toDss rows h with
          | none => simp only [h2] at q
          | some p =>
            obtain ⟨xs, h0⟩ := p
            simp only [h2] at q
            simp only [exec, ht, hie]
            rw [if_pos hb]
            simp only [h1, h2, Option.bind_some, Option.map_some]
            exact ⟨_, _, rfl, q.get _ rfl⟩
    · exact q.elim
  case pick c a b =>
    simp only [execP] at q
    split at q
    · rename_i t ht
      refine ⟨bif t then ρ a else ρ b, h, by simp only [exec, ht], ?_⟩
      cases q with
      | T e q => rw [e]; exact q
      | F e q => rw [e]; exact q
    · exact q.elim
  case indexAddr t x ix =>
    simp only [execP] at q
    split at q
    · rename_i q1 q2 q3
      simp only [exec, q1, q2, q3]
      obtain ⟨hb, q⟩ := bifT q
      obtain ⟨this, q⟩ := q
      simp only [Bool.and_eq_true, beq_iff_eq] at hb
      rw [if_pos ⟨this.1, this.2, hb.1, hb.2⟩]
      exact ⟨_, _, rfl, q⟩
    · exact q.elim
  case index t x ix =>
    simp only [execP] at q
    split at q
    · rename_i s kk i h1 h2
      split at q
      · rename_i hu
        obtain ⟨b, h3, q⟩ := q.get
        exact ⟨_, h, by simp only [exec, h1, h2, Option.bind_some, sc_index hu h3, Option.map_some], q⟩
      · exact q.elim
    · exact q.elim
  case slice t x lo hi mx =>
    simp only [execP] at q
    split at q
    · rename_i e z ht
      cases mx with
      | none =>
        obtain ⟨v, h', e1, q⟩ := sliceP_spec q
        exact ⟨v, h', by simp only [exec, ht]; exact e1, q⟩
      | some m =>
        obtain ⟨v, h', e1, q⟩ := sliceMP_spec q
        exact ⟨v, h', by simp only [exec, ht]; exact e1, q⟩
    · rename_i ht
      split at q
      · rename_i s hx hu
        unfold strP at q
        split at q
        · rename_i l r h1 h2
          obtain ⟨hd, q⟩ := q
          refine ⟨_, h, ?_, q⟩
          have hlo : ∃ lo', optV ρ lo = some lo' ∧ ((lo' = none ∧ l = 0) ∨ ∃ k, lo' = some (.int k l)) := by
            cases lo with
            | none => exact ⟨none, rfl, .inl ⟨rfl, by simpa using h1.symm⟩⟩
            | some y => obtain ⟨kk, e⟩ := int?_val (v := ρ y) (by simpa using h1); exact ⟨_, by simp [optV, e], .inr ⟨kk, rfl⟩⟩
          have hhi : ∃ hi', optV ρ hi = some hi' ∧ ((hi' = none ∧ r = s.size) ∨ ∃ k, hi' = some (.int k r)) := by
            cases hi with
            | none => exact ⟨none, rfl, .inl ⟨rfl, by simpa using h2.symm⟩⟩
            | some y => obtain ⟨kk, e⟩ := int?_val (v := ρ y) (by simpa using h2); exact ⟨_, by simp [optV, e], .inr ⟨kk, rfl⟩⟩
          obtain ⟨lo', e1, h3⟩ := hlo
          obtain ⟨hi', e2, h4⟩ := hhi
          simp only [exec, ht, hx, V.val1, e1, e2, Option.bind_some, Option.isNone_none, if_true]
          rw [sc_slice hu h3 h4 hd.1 hd.2.1 hd.2.2]; rfl
        · exact q.elim
      · exact q.elim
    · exact q.elim
  case binOp op xT x y yT =>
    cases op
    case add =>
      simp only [execP] at q
      split at q
      · rename_i a b hx hy
        obtain ⟨hd, q⟩ := q
        refine ⟨_, h, ?_, q⟩
        simp only [exec, hx, hy, V.val, Option.bind_some, sc_add hd, Option.map_some]
      · exact dflt q
    case eql =>
      simp only [execP] at q
      split at q
      · split at q
        · rename_i cs ds hx hy
          split at q
          · rename_i ks b he
            obtain ⟨hf, q⟩ := q
            refine ⟨_, h, ?_, q⟩
            simp only [exec, hx, hy]
            have e1 := sc_eql hf he x y false
            simp only [Option.bind_eq_some_iff, Option.map_eq_some_iff] at e1 ⊢
            obtain ⟨a, ha, b', hb, e1⟩ := e1
            exact ⟨a, ha, b', hb, _, e1, rfl⟩
          · exact q.elim
        · exact q.elim
      · exact dflt q
    case neq =>
      simp only [execP] at q
      split at q
      · split at q
        · rename_i cs ds hx hy
          split at q
          · rename_i ks b he
            obtain ⟨hf, q⟩ := q
            refine ⟨_, h, ?_, q⟩
            simp only [exec, hx, hy]
            have e1 := sc_eql hf he x y true
            simp only [Option.bind_eq_some_iff, Option.map_eq_some_iff] at e1 ⊢
            obtain ⟨a, ha, b', hb, e1⟩ := e1
            exact ⟨a, ha, b', hb, _, e1, rfl⟩
          · exact q.elim
        · exact q.elim
      · exact dflt q
    case quo =>
      simp only [execP] at q
      split at q
      · rename_i kk a kk' b hx hy
        obtain ⟨hk, hd, q2⟩ := bifT q
        obtain rfl := of_decide_eq_true hk
        refine ⟨_, h, ?_, q2⟩
        simp only [exec, hx, hy, V.val, Option.bind_some, sc_div (.inl ⟨rfl, rfl⟩) hd, Option.map_some]
      · exact q.elim
    case rem =>
      simp only [execP] at q
      split at q
      · rename_i kk a kk' b hx hy
        obtain ⟨hk, hd, q2⟩ := bifT q
        obtain rfl := of_decide_eq_true hk
        refine ⟨_, h, ?_, q2⟩
        simp only [exec, hx, hy, V.val, Option.bind_some, sc_div (.inr ⟨rfl, rfl⟩) hd, Option.map_some]
      · exact q.elim
    all_goals exact dflt q
  case call c =>
    obtain ⟨callee, args, tys⟩ := c
    cases callee with
    | invoke r m => exact dflt q
    | value f =>
      simp only [execP] at q
      split at q
      · rename_i g first captured hf
        obtain ⟨hs, q⟩ := bifT q
        simp only [Bool.and_eq_true, beq_iff_eq] at hs
        have hb : g < 1000000 := Nat.le_of_ble_eq_true hs.2
        simp only [exec, hf]
        rw [if_pos ⟨hs.1.1.1, hs.1.1.2, hs.1.2, hb⟩]
        cases hk : (keepL md g).isEmpty with
        | true =>
          rw [hk] at q
          obtain ⟨hh, q⟩ := bifT q
          obtain ⟨v, h', e, q⟩ := callP_spec q
          exact ⟨v, h', by rw [hh]; exact e, q⟩
        | false =>
          rw [hk] at q
          obtain ⟨v, h', e, q⟩ := keepP_spec q
          exact ⟨v, h', e, q⟩
      · exact q.elim
    | builtin b =>
      cases b
      case len =>
        simp only [execP] at q
        split at q
        · rename_i x t ha ht
          split at q
          · rename_i e z hty
            unfold lenP at q
            cases hr : rowOf h (ρ x) with
            | none => simp only [hr] at q
            | some p =>
              obtain ⟨f, sz, xs⟩ := p
              simp only [hr] at q
              refine ⟨_, h, ?_, q.get _ rfl⟩
              simp only [exec, ha, ht, hty, hr, Option.map_some]
          · exact dflt q
        · exact q.elim
      case append =>
        simp only [execP] at q
        split at q
        case h_2 => exact q.elim
        rename_i x y t t' ha ht
        split at q
        case h_2 => exact q.elim
        rename_i e z htb
        obtain ⟨htt, q⟩ := bifT q
        cases hie : tb e with
        | none => simp only [hie] at q
        | some ie =>
          simp only [hie] at q
          simp only [exec, ha, ht, htb]
          rw [if_pos (by simpa using htt)]
          simp only [appendV, hie]
          split at q
          · rename_i f' sz' ys hx hy
            obtain ⟨h1, q⟩ := bifT q
            obtain ⟨h2, q⟩ := q
            simp only [Bool.and_eq_true, beq_iff_eq, decide_eq_true_eq] at h1
            simp only [hx, hy]
            rw [if_pos ⟨h1.1.1, h1.1.2, h1.2, h2⟩]
            exact ⟨_, _, rfl, q.get _ rfl⟩
          · rename_i s q' g f' sz' ys hx hy
            split at q
            case h_2 => exact q.elim
            rename_i f sz xs hg
            obtain ⟨h1, q⟩ := bifT q
            obtain ⟨h2, q⟩ := q
            simp only [Bool.and_eq_true, beq_iff_eq, decide_eq_true_eq] at h1
            simp only [hx, hy, hg]
            rw [if_pos ⟨h1.1.1.1.1, h1.1.1.1.2, h1.1.1.2, h1.1.2, h2, h1.2⟩]
            exact ⟨_, _, rfl, q.get _ rfl⟩
          · exact q.elim
      all_goals exact dflt q
  all_goals exact dflt q
def opP (P : Program) (tb : Tb) (md : Md) (call : CallF) (ops : Array Oper) (o : Oper) (S : St) (k : St → Prop) : Prop :=
  match o.guard with
  | none => execP P tb md call o S.ev S.h fun v h => k (S.put o.dst v h)
  | some (g, want) => match (ops[g]?).bind (·.dst) with
    | some d => match S.env d with
      | .d (.p (.bool b)) => Ask b (bif want then execP P tb md call o (S.set (.tmp d) true).ev S.h fun v h => k ((S.set (.tmp d) true).put o.dst v h) else k ((S.set (.tmp d) true).put o.dst (.tup []) S.h))
          (bif want then k ((S.set (.tmp d) false).put o.dst (.tup []) S.h) else execP P tb md call o (S.set (.tmp d) false).ev S.h fun v h => k ((S.set (.tmp d) false).put o.dst v h))
      | .tup [] => k (S.put o.dst (.tup []) S.h)
      | _ => False
    | none => False
theorem opP_spec {call : CallF} {ops : Array Oper} {o : Oper} {S : St} {k : St → Prop} (q : opP P tb md call ops o S k) : ∃ S', evOp P tb md call ops o S = some S' ∧ k S' := by
  unfold opP at q
  unfold evOp wantedV
  cases hg : o.guard with
  | none =>
    simp only [hg] at q ⊢
    obtain ⟨v, h', e, q⟩ := execP_spec (ρ := S.ev) q
    exact ⟨_, by simp [e], q⟩
  | some gw =>
    obtain ⟨g, want⟩ := gw
    simp only [hg] at q ⊢
    cases hd : (ops[g]?).bind (·.dst) with
    | none => simp [hd] at q
    | some d =>
      simp only [hd] at q ⊢
      split at q
      · rename_i b hb
        have hset : S.set (.tmp d) b = S := St.set_same hb
        simp only [hb]
        cases q with
        | T e q =>
          subst e
          cases want <;> simp only [hset, cond_true, cond_false] at q
          · exact ⟨_, by simp, q⟩
          · obtain ⟨v, h', e, q⟩ := execP_spec (ρ := S.ev) q
            exact ⟨_, by simp [e], q⟩
        | F e q =>
          subst e
          cases want <;> simp only [hset, cond_true, cond_false] at q
          · obtain ⟨v, h', e, q⟩ := execP_spec (ρ := S.ev) q
            exact ⟨_, by simp [e], q⟩
          · exact ⟨_, by simp, q⟩
      · rename_i hb
        simp only [hb]
        exact ⟨_, by simp, q⟩
      · exact q.elim
def opsP (P : Program) (tb : Tb) (md : Md) (call : CallF) (ops : Array Oper) : List Oper → St → (St → Prop) → Prop
  | [], S, k => k S
  | o :: os, S, k => opP P tb md call ops o S fun S => opsP P tb md call ops os S k
theorem opsP_spec {call : CallF} {ops : Array Oper} : ∀ {os : List Oper} {S : St} {k : St → Prop}, opsP P tb md call ops os S k → ∃ S', evOps P tb md call ops os S = some S' ∧ k S'
  | [], S, k, q => ⟨S, rfl, q⟩
  | o :: os, S, k, q => by
    obtain ⟨S1, e1, q⟩ := opP_spec q
    obtain ⟨S', e2, q⟩ := opsP_spec q
    exact ⟨S', by simp [evOps, e1, e2], q⟩
def gate (tb : Tb) (ρ : Operand → V) (o : Oper) : List Nat → List Nat → Bool
  | [], [] => true
  | c, m => freeOf ρ o c && within tb ρ o m
def opsDP (P : Program) (tb : Tb) (md : Md) (call : CallF) (ops : Array Oper) : List Oper → List (List Nat) → List (List Nat) → St → (St → Prop) → Prop
  | [], _, _, S, k => k S
  | o :: os, c :: cls, m, S, k => bif gate tb S.ev o c (m.headD []) then opP P tb md call ops o S fun S => opsDP P tb md call ops os cls m.tail S k else False
  | _ :: _, [], _, _, _ => False
/-- The slots that each operation must leave alone. -/
def clashL (tb : Tb) (md : Md) (ops : Array Oper) : Nat → List Oper → List (List Nat)
  | _, [] => []
  | j, o :: os => (if cls tb md o == 0 then [] else clash tb md ops (befores ops.toList []) j) :: clashL tb md ops (j + 1) os
/-- The slots that each operation must keep to (none told: all). -/
def claimL (md : Md) (ops : Array Oper) : Nat → List Oper → List (List Nat)
  | _, [] => []
  | j, _ :: os => claims md ops (befores ops.toList []) j :: claimL md ops (j + 1) os
def claimLs (md : Md) (ops : Array Oper) : List (List Nat) := if (claimL md ops 0 ops.toList).all List.isEmpty then [] else claimL md ops 0 ops.toList
theorem claimL_at (ops : Array Oper) : ∀ (os : List Oper) (j i : Nat), i < os.length → (claimL md ops j os)[i]? = some (claims md ops (befores ops.toList []) (j + i))
  | [], j, i, h => by cases h
  | o :: os, j, 0, h => rfl
  | o :: os, j, i + 1, h => by
    simp only [claimL, List.getElem?_cons_succ]
    rw [claimL_at ops os (j + 1) i (by simpa using h)]
    congr 2; omega
theorem claimLs_at (ops : Array Oper) (i : Nat) (h : i < ops.toList.length) : (claimLs md ops).getD i [] = claims md ops (befores ops.toList []) i := by
  have e := claimL_at (md := md) ops ops.toList 0 i h
  rw [Nat.zero_add] at e
  unfold claimLs
  split
  · rename_i hall
    have := List.all_eq_true.1 hall _ (List.mem_of_getElem? e)
    rw [List.isEmpty_iff.1 this]
    rfl
  · rw [List.getD_eq_getElem?_getD, e]; rfl
theorem gate_ok {ρ : Operand → V} {o : Oper} : ∀ {c m : List Nat}, gate tb ρ o c m = true → (freeOf ρ o c && within tb ρ o m) = true
  | [], [], _ => by simp [freeOf, within]
  | [], _ :: _, h => h
  | _ :: _, [], h => h
  | _ :: _, _ :: _, h => h
theorem opsDP_spec {call : CallF} {ops : Array Oper} : ∀ {os : List Oper} {j : Nat} {m : List (List Nat)} {S : St} {k : St → Prop}, (∀ i, i < os.length → m.getD i [] = claims md ops (befores ops.toList []) (j + i)) → opsDP P tb md call ops os (clashL tb md ops j os) m S k → ∃ S', evOpsD P tb md call ops (befores ops.toList []) j os S = some S' ∧ k S'
  | [], j, m, S, k, _, q => ⟨S, rfl, q⟩
  | o :: os, j, m, S, k, hm, q => by
    simp only [clashL, opsDP] at q
    obtain ⟨hg, q⟩ := bifT q
    have hg := gate_ok hg
    have h0 : m.headD [] = claims md ops (befores ops.toList []) j := by
      have := hm 0 (by simp)
      rw [Nat.add_zero] at this
      rw [← this]; cases m <;> rfl
    rw [h0] at hg
    obtain ⟨S1, e1, q⟩ := opP_spec q
    obtain ⟨S', e2, q⟩ := opsDP_spec (fun i hi => by
      have := hm (i + 1) (by simpa using hi)
      rw [show j + (i + 1) = j + 1 + i by omega] at this
      rw [← this]; cases m <;> simp) q
    refine ⟨S', ?_, q⟩
    simp only [evOpsD]
    rw [if_pos, e1, Option.bind_some, e2]
    by_cases hc : (cls tb md o == 0) = true
    · rw [hc]; rfl
    · rw [if_neg hc] at hg
      rw [hg, Bool.or_true]

theorem region_draw {call : CallF} {ops : Array Oper} {S : St} (h : drawOk tb md ops = true) : evRegion P tb md call ops true S = evOpsD P tb md call ops (befores ops.toList []) 0 ops.toList S := by simp [evRegion, h]

/-! ### Code -/
def evP (P : Program) (tb : Tb) (md : Md) (prim : Prim) : Code → St → (Out → St → Prop) → Prop
  | .skip, S, k => k .nrm S
  | .region _ ops false, S, k => opsP P tb md (Ev P tb md prim) ops ops.toList S (k .nrm)
  | .region _ ops true, S, k => ∃ cl cm, (drawOk tb md ops && (clashL tb md ops 0 ops.toList == cl && claimLs md ops == cm)) = true ∧ opsDP P tb md (Ev P tb md prim) ops ops.toList cl cm S (k .nrm)
  | .seq a b, S, k => bif a.isReg then evP P tb md prim a S fun o S => match o with
    | .nrm => evP P tb md prim b S k
    | o => k o S
    else ∃ M : St → Prop, (evP P tb md prim a S fun o S => match o with
      | .nrm => M S.norm
      | o => k o S) ∧ ∀ S, M S → evP P tb md prim b S k
  | .cond c a b, S, k => match S.ev c with
    | .d (.p (.bool t)) => Ask t (evP P tb md prim a (S.set c true) k) (evP P tb md prim b (S.set c false) k)
    | _ => False
  | .block id c, S, k => evP P tb md prim c S fun o S => k (o.unblock id) S
  | .exit id, S, k => k (.ex id) S
  | .ret, S, k => k .ret S
  | c, S, k => W P tb md prim c S k
theorem evP_spec : ∀ (c : Code) {S : St} {k : Out → St → Prop}, evP P tb md prim c S k → W P tb md prim c S k := by
  intro c
  induction c with
  | skip => intro S k q; rw [W_skip]; exact q
  | ret => intro S k q; rw [W_ret]; exact q
  | exit id => intro S k q; rw [W_exit]; exact q
  | region id ops draw =>
    intro S k q
    rw [W_region]
    cases draw with
    | false => exact opsP_spec q
    | true =>
      obtain ⟨cl, cm, hd, q⟩ := q
      simp only [Bool.and_eq_true, beq_iff_eq] at hd
      obtain ⟨hd, rfl, rfl⟩ := hd
      obtain ⟨S', e, q⟩ := opsDP_spec (fun i hi => by rw [Nat.zero_add]; exact claimLs_at ops i hi) q
      exact ⟨S', by rw [region_draw hd]; exact e, q⟩
  | seq a b iha ihb =>
    intro S k q
    rw [W_seq]
    simp only [evP] at q
    cases hr : a.isReg with
    | true =>
      rw [hr] at q
      refine W_mono (iha q) fun o S' q => ?_
      cases o with
      | nrm => show W P tb md prim b (sq a S') k; rw [sq, hr]; exact ihb q
      | ret => exact q
      | ex i => exact q
    | false =>
      rw [hr] at q
      obtain ⟨M, q1, q2⟩ := q
      refine W_mono (iha q1) fun o S' q => ?_
      cases o with
      | nrm => show W P tb md prim b (sq a S') k; rw [sq, hr]; exact ihb (q2 _ q)
      | ret => exact q
      | ex i => exact q
  | cond c a b iha ihb =>
    intro S k q
    simp only [evP] at q
    rw [W_cond]
    split at q
    · rename_i t ht
      rw [ht, condW_b]
      cases q with
      | T e q => subst e; rw [St.set_same ht] at q; exact ⟨fun _ => iha q, nofun⟩
      | F e q => subst e; rw [St.set_same ht] at q; exact ⟨nofun, fun _ => ihb q⟩
    · exact q.elim
  | block id c ih => intro S k q; rw [W_block]; exact ih q
  | _ => intro S k q; exact q

/-! ### What follows from more follows from less -/
theorem loadP_mono {h : Hp} {t : Nat} {a : V} {k k' : V → Prop} (hk : ∀ v, k v → k' v) (q : loadP tb h t a k) : loadP tb h t a k' := by
  unfold loadP at q ⊢
  cases a with
  | ept s g' g i o =>
    simp only at q ⊢
    cases hg : h.get s g' g with
    | none => simp only [hg] at q
    | some ob =>
      cases ob with
      | row b f sz xs => simp only [hg] at q ⊢; exact exP_mono (fun x q => goP_mono (fun v q => by rw [fV_eq] at q ⊢; exact hk v q) q) q
      | box cs => simp only [hg] at q
      | lent => simp only [hg] at q
      | lentR => simp only [hg] at q
  | rpt f sz xs i o => simp only at q ⊢; exact exP_mono (fun x q => goP_mono (fun v q => by rw [fV_eq] at q ⊢; exact hk v q) q) q
  | _ => exact goP_mono (fun v q => by rw [fV_eq] at q ⊢; exact hk v q) q
theorem callP_mono {call : CallF} {g : Nat} {tys : List Nat} {vs : List V} {d : Option Nat} {h : Hp} {k k' : V → Hp → Prop} (hk : ∀ v h, k v h → k' v h) (q : callP tb md call g tys vs d h k) : callP tb md call g tys vs d h k' := by
  unfold callP at q ⊢
  cases e1 : argTs tb (md g).1 0 tys vs h with
  | none => simp only [e1] at q
  | some x =>
    obtain ⟨ts, h1, shown, lent⟩ := x
    simp only [e1] at q ⊢
    refine bif_mono (exP_mono fun x q => ?_) _root_.id q
    obtain ⟨rs, ps⟩ := x
    simp only at q ⊢
    rw [callK_eq] at q ⊢
    refine backsP_mono (fun h2 q => ?_) q
    unfold callK at q ⊢
    cases d with
    | none => exact hk _ _ q
    | some d =>
      simp only at q ⊢
      cases e4 : ldRs d 0 rs h2 with
      | none => simp only [e4] at q
      | some x => simp only [e4] at q ⊢; exact hk _ _ q
theorem sliceP_mono {h : Hp} {e d : Nat} {x : V} {lo hi mx : Option V} {k k' : V → Hp → Prop} (hk : ∀ v h, k v h → k' v h) (q : sliceP tb h e d x lo hi mx k) : sliceP tb h e d x lo hi mx k' := by
  unfold sliceP at q ⊢
  split
  case h_2 hno => rw [hno] at q; exact q
  rename_i f sz xs hr
  simp only [hr] at q
  split
  case h_2 hno =>
    split at q
    · rename_i h1 h2; exact (hno _ _ h1 h2 rfl).elim
    · exact q
  rename_i l r h1 h2
  simp only [h1, h2] at q
  refine bif_mono (andP_mono fun q => ?_) _root_.id q
  cases x with
  | own s g i =>
    cases lo with
    | none =>
      simp only at q ⊢
      split
      · rename_i hg; simp only [hg] at q; exact eqP_mono (fun X => hk _ _) q
      · rename_i hno
        split at q
        · rename_i hg; exact (hno _ _ _ hg).elim
        · exact eqP_mono (fun X => hk _ _) q
    | some v => exact eqP_mono (fun X => hk _ _) q
  | _ => exact eqP_mono (fun X => hk _ _) q
theorem execP_mono {call : CallF} {o : Oper} {ρ : Operand → V} {h : Hp} {k k' : V → Hp → Prop} (hk : ∀ v h, k v h → k' v h) (q : execP P tb md call o ρ h k) : execP P tb md call o ρ h k' := by
  obtain ⟨dst, op, type, pos, after, guard⟩ := o
  unfold execP at q ⊢
  cases op
  case move x => exact bif_mono (fun q => by rw [fV_eq] at q ⊢; exact hk _ _ q) (dfP_mono hk) q
  case assign x => exact bif_mono (fun q => by rw [fV_eq] at q ⊢; exact hk _ _ q) (dfP_mono hk) q
  case alloc e =>
    simp only at q ⊢
    split
    · rename_i i hi; simp only [hi] at q; exact bif_mono (hk _ _) (dfP_mono hk) q
    · rename_i hi; simp only [hi] at q; exact dfP_mono hk q
  case load t a => exact loadP_mono (fun v => hk v h) q
  case store t a x => exact bif_mono (storeP_mono (fun h => hk _ h)) (storeP_mono (fun h => hk _ h)) q
  case nilCheck x => exact aliveP_mono (hk _ _) q
  case fieldAddr st x f =>
    simp only at q ⊢
    unfold fieldP at q ⊢
    split
    · rename_i fs z ht
      simp only [ht] at q
      split
      · rename_i hf; simp only [hf] at q; exact bif_mono _root_.id (aliveP_mono (hk _ _)) q
      · rename_i hf; simp only [hf] at q
    · rename_i hno
      split at q
      · rename_i ht; exact (hno _ _ _ _ ht).elim
      · exact q
  case convert src dst' x =>
    simp only at q ⊢
    split
    · rename_i e z ht
      simp only [ht] at q
      split
      · rename_i h1 h2 h3; simp only [h1, h2, h3] at q; exact exP_mono (fun ns => hk _ _) q
      · rename_i hno
        split at q
        · rename_i h1 h2 h3; exact (hno _ _ h1 h2 h3).elim
        · exact q
    · rename_i hno
      split at q
      · rename_i ht; exact (hno _ _ _ _ ht).elim
      · exact dfP_mono hk q
  case makeSlice t l c =>
    simp only at q ⊢
    split
    · rename_i e z ht
      simp only [ht] at q
      unfold mkP at q ⊢
      split
      · rename_i h1 h2 h3; simp only [h1, h2, h3] at q; exact bif_mono (andP_mono (eqP_mono fun X => hk _ _)) _root_.id q
      · rename_i hno
        split at q
        · rename_i h1 h2 h3; exact (hno _ _ _ _ _ h1 h2 h3).elim
        · exact q
    · rename_i hno
      split at q
      · rename_i ht; exact (hno _ _ _ _ ht).elim
      · exact q
  case buildSlice t len parts =>
    simp only at q ⊢
    split
    · rename_i e z ht
      simp only [ht] at q
      unfold buildP at q ⊢
      cases hie : tb e with
      | none => simp only [hie] at q
      | some ie =>
        simp only [hie] at q ⊢
        refine bif_mono (fun q => ?_) _root_.id q
        cases h1 : fillS tb e ρ parts.toList (List.replicate len ie.z) with
        | none => simp only [h1] at q
        | some rows =>
          simp only [h1] at q ⊢
          cases h2 : toDss rows h with
          | none => simp only [h2] at q
          | some p => simp only [h2] at q ⊢; exact eqP_mono (fun X => hk _ _) q
    · rename_i hno
      split at q
      · rename_i ht; exact (hno _ _ _ _ ht).elim
      · exact q
  case binOp op xT x y yT =>
    cases op
    case add =>
      simp only at q ⊢
      split
      · rename_i hx hy; simp only [hx, hy] at q; exact andP_mono (hk _ _) q
      · rename_i hno
        split at q
        · rename_i hx hy; exact (hno _ _ hx hy).elim
        · exact dfP_mono hk q
    case eql =>
      simp only at q ⊢
      split
      · rename_i ht
        simp only [ht] at q
        split
        · rename_i hx hy
          simp only [hx, hy] at q
          split
          · rename_i he; simp only [he] at q; exact andP_mono (hk _ _) q
          · rename_i he; simp only [he] at q
        · rename_i hno
          split at q
          · rename_i hx hy; exact (hno _ _ hx hy).elim
          · exact q
      · rename_i hno
        split at q
        · rename_i ht; exact (hno _ _ _ _ ht).elim
        · exact dfP_mono hk q
    case neq =>
      simp only at q ⊢
      split
      · rename_i ht
        simp only [ht] at q
        split
        · rename_i hx hy
          simp only [hx, hy] at q
          split
          · rename_i he; simp only [he] at q; exact andP_mono (hk _ _) q
          · rename_i he; simp only [he] at q
        · rename_i hno
          split at q
          · rename_i hx hy; exact (hno _ _ hx hy).elim
          · exact q
      · rename_i hno
        split at q
        · rename_i ht; exact (hno _ _ _ _ ht).elim
        · exact dfP_mono hk q
    case quo =>
      simp only at q ⊢
      split
      · rename_i hx hy; simp only [hx, hy] at q; exact bif_mono (andP_mono (hk _ _)) _root_.id q
      · rename_i hno
        split at q
        · rename_i hx hy; exact (hno _ _ _ _ hx hy).elim
        · exact q
    case rem =>
      simp only at q ⊢
      split
      · rename_i hx hy; simp only [hx, hy] at q; exact bif_mono (andP_mono (hk _ _)) _root_.id q
      · rename_i hno
        split at q
        · rename_i hx hy; exact (hno _ _ _ _ hx hy).elim
        · exact q
    all_goals exact dfP_mono hk q
  case pick c a b =>
    simp only at q ⊢
    split
    · rename_i ht; simp only [ht] at q; exact Ask_mono (hk _ _) (hk _ _) q
    · rename_i hno
      split at q
      · rename_i ht; exact (hno _ ht).elim
      · exact q
  case indexAddr t x ix =>
    simp only at q ⊢
    split
    · rename_i h1 h2 h3; simp only [h1, h2, h3] at q; exact bif_mono (andP_mono (hk _ _)) _root_.id q
    · rename_i hno
      split at q
      · rename_i h1 h2 h3; exact (hno _ _ _ _ _ _ _ _ _ h1 h2 h3).elim
      · exact q
  case index t x ix =>
    simp only at q ⊢
    split
    · rename_i h1 h2; simp only [h1, h2] at q
      split
      · rename_i hu; simp only [hu] at q; exact exP_mono (fun b => hk _ _) q
      · rename_i hno
        split at q
        · rename_i hu; exact (hno hu).elim
        · exact q
    · rename_i hno
      split at q
      · rename_i h1 h2; exact (hno _ _ _ h1 h2).elim
      · exact q
  case slice t x lo hi mx =>
    simp only at q ⊢
    split
    · rename_i ht; simp only [ht] at q
      cases mx with
      | none => exact sliceP_mono hk q
      | some m => exact sliceMP_mono hk q
    · rename_i ht
      simp only [ht] at q
      split
      · rename_i s hx hu
        simp only [hx, hu] at q
        unfold strP at q ⊢
        split
        · rename_i h1 h2; simp only [h1, h2] at q; exact andP_mono (hk _ _) q
        · rename_i hno
          split at q
          · rename_i h1 h2; exact (hno _ _ h1 h2).elim
          · exact q
      · rename_i hno
        split at q
        · rename_i hx hu; exact (hno _ hx hu rfl).elim
        · exact q
    · rename_i h1 h2
      split at q
      · rename_i ht; exact (h1 _ _ _ _ ht).elim
      · rename_i ht; exact (h2 _ _ _ ht).elim
      · exact q
  case call c =>
    obtain ⟨callee, args, tys⟩ := c
    cases callee with
    | value f =>
      simp only at q ⊢
      split
      · rename_i hf; simp only [hf] at q; exact bif_mono (bif_mono (bif_mono (callP_mono hk) _root_.id) (keepP_mono hk)) _root_.id q
      · rename_i hno
        split at q
        · rename_i hf; exact (hno _ _ _ hf).elim
        · exact q
    | invoke r m => exact dfP_mono hk q
    | builtin b =>
      cases b
      case len =>
        simp only at q ⊢
        split
        · rename_i x t ha ht
          simp only [ha, ht] at q
          split
          · rename_i hty
            simp only [hty] at q
            unfold lenP at q ⊢
            cases hr : rowOf h (ρ x) with
            | none => simp only [hr] at q
            | some p => simp only [hr] at q ⊢; exact eqP_mono (fun n => hk _ _) q
          · rename_i hno
            split at q
            · rename_i hty; exact (hno _ _ _ _ hty).elim
            · exact dfP_mono hk q
        · rename_i hno
          split at q
          · rename_i ha ht; exact (hno _ _ ha ht).elim
          · exact q
      case append =>
        simp only at q ⊢
        split
        case h_2 hno =>
          split at q
          · rename_i h1 h2; exact (hno _ _ _ _ h1 h2).elim
          · exact q
        rename_i x y t t' ha ht
        simp only [ha, ht] at q
        split
        case h_2 hno =>
          split at q
          · rename_i h1; exact (hno _ _ _ _ h1).elim
          · exact q
        rename_i e z htb
        simp only [htb] at q
        refine bif_mono (fun q => ?_) _root_.id q
        cases hie : tb e with
        | none => simp only [hie] at q
        | some ie =>
          simp only [hie] at q ⊢
          split
          · rename_i hx hy; simp only [hx, hy] at q; exact bif_mono (andP_mono (eqP_mono fun X => hk _ _)) _root_.id q
          · rename_i hx hy; simp only [hx, hy] at q
            split
            · rename_i hg; simp only [hg] at q; exact bif_mono (andP_mono (eqP_mono fun X => hk _ _)) _root_.id q
            · rename_i hno
              split at q
              · rename_i hg; exact (hno _ _ _ hg).elim
              · exact q
          · rename_i hno1 hno2
            split at q
            · rename_i hx hy; exact (hno1 _ _ _ _ _ hx hy).elim
            · rename_i hx hy; exact (hno2 _ _ _ _ _ _ hx hy).elim
            · exact q
      all_goals exact dfP_mono hk q
  all_goals exact dfP_mono hk q
theorem opP_mono {call : CallF} {ops : Array Oper} {o : Oper} {S : St} {k k' : St → Prop} (hk : ∀ S, k S → k' S) (q : opP P tb md call ops o S k) : opP P tb md call ops o S k' := by
  unfold opP at q ⊢
  split
  · rename_i hg; simp only [hg] at q; exact execP_mono (fun v h => hk _) q
  · rename_i g want hg; simp only [hg] at q
    split
    · rename_i d hd; simp only [hd] at q
      split
      · rename_i b hb; simp only [hb] at q
        exact Ask_mono (bif_mono (execP_mono fun v h => hk _) (hk _)) (bif_mono (hk _) (execP_mono fun v h => hk _)) q
      · rename_i hb; simp only [hb] at q; exact hk _ q
      · rename_i h1 h2
        split at q
        · rename_i hb; exact (h1 _ hb).elim
        · rename_i hb; exact (h2 hb).elim
        · exact q
    · rename_i hd; simp only [hd] at q
theorem opsP_mono {call : CallF} {ops : Array Oper} : ∀ {os : List Oper} {S : St} {k k' : St → Prop}, (∀ S, k S → k' S) → opsP P tb md call ops os S k → opsP P tb md call ops os S k'
  | [], S, k, k', hk, q => hk S q
  | o :: os, S, k, k', hk, q => opP_mono (fun S q => opsP_mono hk q) q
theorem opsDP_mono {call : CallF} {ops : Array Oper} : ∀ {os : List Oper} {cl m : List (List Nat)} {S : St} {k k' : St → Prop}, (∀ S, k S → k' S) → opsDP P tb md call ops os cl m S k → opsDP P tb md call ops os cl m S k'
  | [], _, _, S, k, k', hk, q => hk S q
  | o :: os, c :: cl, m, S, k, k', hk, q => bif_mono (opP_mono fun S q => opsDP_mono hk q) _root_.id q
  | _ :: _, [], _, S, k, k', hk, q => q
theorem evP_mono : ∀ (c : Code) {S : St} {k k' : Out → St → Prop}, (∀ o S, k o S → k' o S) → evP P tb md prim c S k → evP P tb md prim c S k' := by
  intro c
  induction c with
  | skip => intro S k k' hk q; exact hk _ _ q
  | ret => intro S k k' hk q; exact hk _ _ q
  | exit id => intro S k k' hk q; exact hk _ _ q
  | region id ops draw =>
    intro S k k' hk q
    cases draw with
    | false => exact opsP_mono (fun S => hk _ S) q
    | true => obtain ⟨cl, cm, h1, q⟩ := q; exact ⟨cl, cm, h1, opsDP_mono (fun S => hk _ S) q⟩
  | seq a b iha ihb =>
    intro S k k' hk q
    simp only [evP] at q ⊢
    refine bif_mono (iha fun o S q => ?_) ?_ q
    · cases o with
      | nrm => exact ihb hk q
      | ret => exact hk _ _ q
      | ex i => exact hk _ _ q
    · rintro ⟨M, q1, q2⟩
      refine ⟨M, iha (fun o S q => ?_) q1, fun S q => ihb hk (q2 S q)⟩
      cases o with
      | nrm => exact q
      | ret => exact hk _ _ q
      | ex i => exact hk _ _ q
  | cond c a b iha ihb =>
    intro S k k' hk q
    simp only [evP] at q ⊢
    split
    · rename_i ht; simp only [ht] at q; exact Ask_mono (iha hk) (ihb hk) q
    · rename_i hno
      split at q
      · rename_i ht; exact (hno _ ht).elim
      · exact q
  | block id c ih => intro S k k' hk q; exact ih (fun o S q => hk _ _ q) q
  | _ => intro S k k' hk q; exact W_mono q hk
end Go.Ev
