/- The evaluator: EvDef. -/
import Derived.Calls
import Derived.Orders
import Derived.Maps.AppendAt
import Derived.Laws.BytesArg
set_option linter.unusedSimpArgs false
set_option linter.unusedVariables false
namespace Go.Ev
set_option linter.unusedVariables false

/-! ### 1. Values without memory, and what a frame holds -/
inductive D where
  | p (v : Value)
  | l (f : Bool) (sz : Nat) (xs : List (List D))

inductive V where
  | d (x : D)
  | agg (cs : List V)
  | nl (f : Bool) (sz : Nat)
  | own (s k g : Nat)
  | ptr (s k g o : Nat)
  | ept (s k g i o : Nat)
  | rpt (f : Bool) (sz : Nat) (xs : List (List D)) (i o : Nat)
  | tup (vs : List V)
  | u

inductive T where
  | d (x : D)
  | agg (cs : List T)
  | own (f : Bool) (sz : Nat) (xs : List (List D))
  | lend (f : Bool) (sz : Nat) (xs : List (List D))
  | ptr (cs : List T)

inductive Ob where
  | row (own f : Bool) (sz : Nat) (xs : List (List D))
  | box (cs : List V)
  | lent
  | lentR (sz n : Nat)
def Ob.isB : Ob → Bool
  | .row .. => false
  | .lentR .. => false
  | _ => true
def Ob.away : Ob → Bool
  | .lent => true
  | .lentR .. => true
  | _ => false
/-- Of a row: the size of its elements, their number. -/
def Ob.dim : Ob → Nat × Nat
  | .row _ _ sz xs => (sz, xs.length)
  | .lentR sz n => (sz, n)
  | _ => (0, 0)

abbrev Hp := Nat → Nat → Nat × Option Ob
def Hp.get (h : Hp) (s k g : Nat) : Option Ob := bif Nat.beq (h s k).1 g then (h s k).2 else none
theorem beq_ite {α : Type} (a b : Nat) (x y : α) : (bif Nat.beq a b then x else y) = if a = b then x else y := by
  cases q : Nat.beq a b with
  | true => rw [if_pos (Nat.eq_of_beq_eq_true q)]; rfl
  | false => rw [if_neg (Nat.ne_of_beq_eq_false q)]; rfl
theorem Hp.get_def (h : Hp) (s k g : Nat) : h.get s k g = if (h s k).1 = g then (h s k).2 else none := beq_ite _ _ _ _
def Hp.put (h : Hp) (s k : Nat) (x : Nat × Option Ob) : Hp := fun s' k' => bif Nat.beq s' s && Nat.beq k' k then x else h s' k'
theorem Hp.put_def (h : Hp) (s k : Nat) (x : Nat × Option Ob) (s' k' : Nat) : h.put s k x s' k' = if s' = s ∧ k' = k then x else h s' k' := by
  unfold Hp.put
  cases q : Nat.beq s' s with
  | false => rw [if_neg (fun e => Nat.ne_of_beq_eq_false q e.1)]; rfl
  | true => cases q2 : Nat.beq k' k with
    | false => rw [if_neg (fun e => Nat.ne_of_beq_eq_false q2 e.2)]; rfl
    | true => rw [if_pos ⟨Nat.eq_of_beq_eq_true q, Nat.eq_of_beq_eq_true q2⟩]; rfl
def Hp.new (h : Hp) (s k : Nat) (ob : Ob) : Hp := h.put s k ((h s k).1 + 1, some ob)
def Hp.mod (h : Hp) (s k : Nat) (ob : Option Ob) : Hp := h.put s k ((h s k).1, ob)
def Hp.nil : Hp := fun _ _ => (0, none)

structure St where
  n : Nat
  env : Nat → V
  h : Hp
def St.put (S : St) (d : Option Nat) (v : V) (h : Hp) : St :=
  ⟨S.n, match d with | some i => bif Nat.blt i S.n then fun j => bif Nat.beq j i then v else S.env j else S.env | none => S.env, h⟩
theorem St.put_def (S : St) (d : Option Nat) (v : V) (h : Hp) : S.put d v h = ⟨S.n, match d with | some i => if i < S.n then fun j => if j = i then v else S.env j else S.env | none => S.env, h⟩ := by
  cases d with
  | none => rfl
  | some i =>
    unfold St.put
    simp only [St.mk.injEq, true_and, and_true]
    have e : (fun j => bif Nat.beq j i then v else S.env j) = fun j => if j = i then v else S.env j := funext fun j => beq_ite _ _ _ _
    rw [e]
    cases q : Nat.blt i S.n with
    | true => exact (if_pos (c := i < S.n) (Nat.le_of_ble_eq_true q)).symm
    | false => exact (if_neg (c := i < S.n) (fun z => by rw [show Nat.blt i S.n = true from Nat.ble_eq_true_of_le z] at q; cases q)).symm

/-! ### 2. Types -/
inductive TK where
  | sc | sl (e : Nat) | pt (e : Nat) | st (fs : List (Nat × Nat)) | ot
structure TI where
  sz : Nat
  by_ : Nat
  k : TK
  z : List V
abbrev Tb := Nat → Option TI
def D.isP : D → Bool
  | .p _ => true
  | .l .. => false
def zD : V → D
  | .d x => x
  | .nl f sz => .l f sz []
  | _ => .l true 0 []
/-- Do the elements of a list of this type hold no lists? -/
def TI.fl (i : TI) : Bool := (i.z.map zD).all D.isP
def TI.q (i : TI) : Bool × Nat := (i.fl, i.sz)

/-! ### 3. Operations that look at no memory: the model's own -/
def pureRun {α : Type} (P : Program) : Sem α → Option α
  | .pure a => some a
  | .program k => pureRun P (k P)
  | _ => none
def V.val1 : V → Option Value
  | .d (.p v) => some v
  | _ => none
def V.val : V → Option Value
  | .d (.p v) => some v
  | .agg cs => (cs.mapM V.val1).map fun l => .agg l.toArray
  | _ => none
def V.of (v : Value) : Option V :=
  match v with
  | .agg cs => if cs.toList.all Value.oneCell' then some (.agg (cs.toList.map fun v => .d (.p v))) else none
  | v => if v.oneCell' then some (.d (.p v)) else none
def sc (P : Program) (s : Sem Value) : Option V := (pureRun P s).bind V.of

/-! ### 4. Memory -/
def V.cells : V → List V
  | .agg cs => cs
  | v => [v]
def V.cellOk : V → Bool
  | .d _ | .nl .. | .own .. => true
  | _ => false
def V.fix (q : Bool × Nat) : V → V
  | .nl _ _ => .nl q.1 q.2
  | v => v
def szOf (tb : Tb) (t : Nat) : Nat := match tb t with | some i => i.sz | none => 0
def flOf (tb : Tb) (t : Nat) : Bool := match tb t with | some i => i.fl | none => true
/-- Of a slice type: whether its elements hold no lists, and their size. -/
def elSz (tb : Tb) (t : Nat) : Bool × Nat := match tb t with | some ⟨_, _, .sl e, _⟩ => (flOf tb e, szOf tb e) | _ => (true, 0)
def isAgg (tb : Tb) (t : Nat) : Bool := match tb t with | some ⟨_, _, .st _, _⟩ => true | _ => false
def V.toD (h : Hp) : V → Option (D × Hp)
  | .d x => some (x, h)
  | .nl f sz => some (.l f sz [], h)
  | .own s k g => match h.get s k g with
    | some (.row _ f sz xs) => some (.l f sz xs, h.mod s k (some (.row false f sz xs)))
    | _ => none
  | _ => none
def toDs : List V → Hp → Option (List D × Hp)
  | [], h => some ([], h)
  | v :: vs, h => (v.toD h).bind fun (x, h) => (toDs vs h).map fun (xs, h) => (x :: xs, h)
def toDss : List (List V) → Hp → Option (List (List D) × Hp)
  | [], h => some ([], h)
  | v :: vs, h => (toDs v h).bind fun (x, h) => (toDss vs h).map fun (xs, h) => (x :: xs, h)
/-- A list's part replaced. -/
def over {α : Type} : List α → Nat → List α → List α
  | cs, _, [] => cs
  | [], _, _ => []
  | _ :: cs, 0, n :: new => n :: over cs 0 new
  | c :: cs, o + 1, n :: new => c :: over cs o (n :: new)
theorem over_eq {α : Type} : ∀ (cs : List α) (o : Nat) (new : List α), o + new.length ≤ cs.length → over cs o new = cs.take o ++ new ++ cs.drop (o + new.length)
  | cs, o, [], _ => by simp [over]
  | [], o, n :: new, h => by simp at h
  | c :: cs, 0, n :: new, h => by
    have := over_eq cs 0 new (by simp at h ⊢; omega)
    simp only [over, this]; simp
  | c :: cs, o + 1, n :: new, h => by
    have := over_eq cs o (n :: new) (by simp at h ⊢; omega)
    simp only [over, this, List.length_cons]
    rw [show o + 1 + (new.length + 1) = (o + (new.length + 1)) + 1 by omega, List.drop_succ_cons, List.take_succ_cons]; rfl
def partV (tb : Tb) (t : Nat) (cs : List V) (o : Nat) : Option V :=
  if o + szOf tb t ≤ cs.length then
    if isAgg tb t then some (.agg ((cs.drop o).take (szOf tb t)))
    else if szOf tb t = 1 then cs[o]? else none
  else none
def loadV (tb : Tb) (h : Hp) (t : Nat) : V → Option V
  | .ptr s k g o => match h.get s k g with
    | some (.box cs) => partV tb t cs o
    | _ => none
  | .ept s k g i o => match h.get s k g with
    | some (.row _ _ _ xs) => xs[i]?.bind fun x => partV tb t (x.map V.d) o
    | _ => none
  | .rpt _ _ xs i o => xs[i]?.bind fun x => partV tb t (x.map V.d) o
  | _ => none
def storeV (tb : Tb) (h : Hp) (t : Nat) (a x : V) : Option Hp :=
  let cs := (x.fix (elSz tb t)).cells
  if (tb t).isSome ∧ cs.length = szOf tb t ∧ cs.all V.cellOk then
    match a with
    | .ptr s k g o => match h.get s k g with
      | some (.box ds) => if o + cs.length ≤ ds.length then some (h.mod s k (some (.box (over ds o cs)))) else none
      | _ => none
    | .ept s k g i o => (toDs cs h).bind fun (ys, h) => match h.get s k g with
      | some (.row true f sz xs) => match xs[i]? with
        | some e => if o + ys.length ≤ e.length then some (h.mod s k (some (.row true (f && ys.all D.isP) sz (xs.set i (over e o ys))))) else none
        | none => none
      | _ => none
    | _ => none
  else none
def fillV (tb : Tb) (fs : List (Nat × Nat)) (ρ : Operand → V) : List (Nat × Operand) → List V → Option (List V)
  | [], cs => some cs
  | (j, x) :: rest, cs => match fs[j]? with
    | some (o, ft) =>
      let ys := ((ρ x).fix (elSz tb ft)).cells
      if ys.length = szOf tb ft ∧ o + ys.length ≤ cs.length ∧ ys.all V.cellOk then fillV tb fs ρ rest (over cs o ys) else none
    | none => none
def fillS (tb : Tb) (e : Nat) (ρ : Operand → V) : List (Nat × Operand) → List (List V) → Option (List (List V))
  | [], cs => some cs
  | (j, x) :: rest, cs =>
    let ys := ((ρ x).fix (elSz tb e)).cells
    if ys.length = szOf tb e ∧ j < cs.length ∧ ys.all V.cellOk then fillS tb e ρ rest (cs.set j ys) else none
/-- What a slice holds: its flag, the size of its elements, the elements. -/
def rowOf (h : Hp) : V → Option (Bool × Nat × List (List D))
  | .d (.l f sz xs) => some (f, sz, xs)
  | .nl f sz => some (f, sz, [])
  | .own s k g => match h.get s k g with
    | some (.row _ f sz xs) => some (f, sz, xs)
    | _ => none
  | _ => none
def V.int? : V → Option Int
  | .d (.p (.int _ n)) => some n
  | _ => none

/-! ### 5. Calls -/
def ldCell (s k : Nat) (t : T) (h : Hp) : Option (V × Hp) :=
  match t with
  | .d x => some (.d x, h)
  | .own f sz xs => some (.own s k ((h s k).1 + 1), h.new s k (.row true f sz xs))
  | _ => none
def ldCells (s : Nat) : Nat → List T → Hp → Option (List V × Hp)
  | _, [], h => some ([], h)
  | k, t :: ts, h => (ldCell s k t h).bind fun (v, h) => (ldCells s (k + 1) ts h).map fun (vs, h) => (v :: vs, h)
def ldT (s k : Nat) (t : T) (h : Hp) : Option (V × Hp) :=
  match t with
  | .agg ts => (ldCells s (k + 1) ts h).map fun (vs, h) => (.agg vs, h)
  | .lend f sz xs => ldCell s k (.own f sz xs) h
  | .ptr ts => (ldCells s (1000 * (k + 1)) ts h).map fun (vs, h) => (.ptr s k ((h s k).1 + 1) 0, h.new s k (.box vs))
  | t => ldCell s k t h
/-- The results of a call, the i-th named (s, 100 i). -/
def ldRs (s : Nat) : Nat → List T → Hp → Option (List V × Hp)
  | _, [], h => some ([], h)
  | k, t :: ts, h => (ldT s k t h).bind fun (v, h) => (ldRs s (k + 100) ts h).map fun (vs, h) => (v :: vs, h)
/-- The parameters of a call: the i-th named (n + i, 0); rows (i, 1), as if they had been assigned to the parameter's slot. -/
def T.nm : T → Nat
  | .own .. => 1
  | _ => 0
def T.ns (n i : Nat) : T → Nat
  | .own .. => i - n
  | _ => i
def ldPs (n : Nat) : Nat → List T → Hp → Option (List V × Hp)
  | _, [], h => some ([], h)
  | i, t :: ts, h => (ldT (t.ns n i) t.nm t h).bind fun (v, h) => (ldPs n (i + 1) ts h).map fun (vs, h) => (v :: vs, h)

/-- A cell of a box moved out of the heap. -/
def outCell (h : Hp) : V → Option (T × Hp)
  | .d x => some (.d x, h)
  | .nl f sz => some (.own f sz [], h)
  | .own s k g => match h.get s k g with
    | some (.row true f sz xs) => some (.own f sz xs, h.mod s k none)
    | some (.row false f sz xs) => some (.d (.l f sz xs), h)
    | _ => none
  | _ => none
def outCells : List V → Hp → Option (List T × Hp)
  | [], h => some ([], h)
  | v :: vs, h => (outCell h v).bind fun (t, h) => (outCells vs h).map fun (ts, h) => (t :: ts, h)
/-- A cell that is only read by who gets it; the rows that it shows. -/
def roCell (h : Hp) : V → Option (T × List (Nat × Nat))
  | .d x => some (.d x, [])
  | .nl f sz => some (.d (.l f sz []), [])
  | .own s k g => match h.get s k g with
    | some (.row own f sz xs) => some (.d (.l f sz xs), if own then [(s, k)] else [])
    | _ => none
  | _ => none
def roCells (h : Hp) : List V → Option (List T × List (Nat × Nat))
  | [] => some ([], [])
  | v :: vs => (roCell h v).bind fun (t, a) => (roCells h vs).map fun (ts, b) => (t :: ts, a ++ b)
/-- A box that was handed on: its name, the place in it, what it held; or a row that is to come back. -/
structure Lent where
  row : Bool
  s : Nat
  k : Nat
  g : Nat
  o : Nat
  n : Nat
  cs : List V
def argR (cons : Nat) (h : Hp) (v : V) : Option (T × Hp × List (Nat × Nat) × List Lent) :=
  match cons with
    | 0 => (roCell h v).map fun (t, a) => (t, h, a, [])
    | 1 => match outCell h v with
      | some (.own f sz xs, h) => some (.own f sz xs, h, [], [])
      | _ => none
    | _ => match v with
      | .own s k g => match h.get s k g with
        | some (.row true f sz xs) => some (.lend f sz xs, h.mod s k (some (.lentR sz xs.length)), [], [⟨true, s, k, g, 0, 0, []⟩])
        | _ => none
      | _ => none
def argT (tb : Tb) (ty : Nat) (cons : Nat) (h : Hp) (v : V) : Option (T × Hp × List (Nat × Nat) × List Lent) :=
  match v.fix (elSz tb ty) with
  | .agg cs => (roCells h cs).map fun (ts, a) => (.agg ts, h, a, [])
  | .ptr s k g o => match h.get s k g, tb ty with
    | some (.box cs), some ⟨_, _, .pt e, _⟩ =>
      if o + szOf tb e ≤ cs.length then
        (outCells ((cs.drop o).take (szOf tb e)) h).map fun (ts, h) => (.ptr ts, h.mod s k (some .lent), [], [⟨false, s, k, g, o, szOf tb e, cs⟩])
      else none
    | _, _ => none
  | v => argR cons h v
def argTs (tb : Tb) (cons : List Nat) : Nat → List Nat → List V → Hp → Option (List T × Hp × List (Nat × Nat) × List Lent)
  | _, _, [], h => some ([], h, [], [])
  | i, ty :: tys, v :: vs, h => (argT tb ty (cons.getD i 0) h v).bind fun (t, h, a, b) =>
    (argTs tb cons (i + 1) tys vs h).map fun (ts, h, a', b') => (t :: ts, h, a ++ a', b ++ b')
  | _, [], _ :: _, _ => none
/-- The boxes that were handed on, back with what they hold now. -/
def backs : List Lent → List T → Hp → Option Hp
  | [], [], h => some h
  | b :: bs, .own f sz xs :: tss, h => if b.row then match h.get b.s b.k b.g with
      | some (.lentR sz' n) => if sz = sz' ∧ (xs.length = n) then backs bs tss (h.mod b.s b.k (some (.row true f sz xs))) else none
      | _ => none
    else none
  | b :: bs, .ptr ts :: tss, h => if ts.length = b.n ∧ b.row = false then
      (ldCells b.s (1000 * (b.k + 1) + b.o) ts h).bind fun (vs, h) =>
        match h.get b.s b.k b.g with
        | some .lent => backs bs tss (h.mod b.s b.k (some (.box (over b.cs b.o vs))))
        | _ => none
    else none
  | _, _, _ => none
def freezes : List (Nat × Nat) → Hp → Hp
  | [], h => h
  | (s, k) :: r, h => freezes r (match (h s k).2 with | some (.row _ f sz xs) => h.mod s k (some (.row false f sz xs)) | _ => h)
mutual
/-- May it hold a list that is another's too? -/
def T.shares : T → Bool
  | .d (.p _) => false
  | .d (.l ..) => true
  | .own f _ _ => !f
  | .lend f _ _ => !f
  | .agg cs => T.sharesL cs
  | .ptr cs => T.sharesL cs
def T.sharesL : List T → Bool
  | [] => false
  | t :: ts => t.shares || T.sharesL ts
end
/-- What becomes of the parameters (0: read; 1: used up; 2: changed in place); which results are the caller's own. -/
abbrev Md := Nat → List Nat × List Bool

abbrev CallF := Nat → List T → Option (List T × List T)
def tupV : List V → V
  | [v] => v
  | vs => .tup vs
def ownAt (h : Hp) (s k : Nat) : Bool := match (h s k).2 with | some (.row true _ _ _) => true | _ => false
def callV (tb : Tb) (md : Md) (call : CallF) (g : Nat) (tys : List Nat) (vs : List V) (d : Option Nat) (h : Hp) : Option (V × Hp) :=
  (argTs tb (md g).1 0 tys vs h).bind fun (ts, h, shown, lent) =>
  if shown.all (fun (s, k) => ownAt h s k) then
    (call g ts).bind fun (rs, ps) =>
    (backs lent ps (if T.sharesL rs || T.sharesL ps then freezes shown h else h)).bind fun h =>
    match d with
    | some d => (ldRs d 0 rs h).map fun (vs, h) => (tupV vs, h)
    | none => some (.u, h)
  else none

/-- Functions of which a call's box is to hold its rows under its own name. -/
def homeL (md : Md) (g : Nat) : List Nat := (md (4000000 + g)).1
def V.atS (s : Nat) : V → Bool
  | .own s' _ _ => s' == s
  | .d _ => true
  | .nl .. => true
  | _ => false
def V.noPtr : V → Bool
  | .ptr .. => false
  | _ => true
def V.homed (h : Hp) : V → Bool
  | .ptr s k g _ => match h.get s k g with
    | some (.box cs) => cs.all (V.atS s)
    | _ => false
  | _ => true
def homedAll (h : Hp) : List V → Bool
  | [] => true
  | v :: vs => v.homed h && vs.all V.noPtr
/-- Cells of the box behind the part that is handed on: they are not touched. -/
def outL (md : Md) (g : Nat) : List Nat := (md (5000000 + g)).1
def outOk (tb : Tb) (ks : List Nat) (tys : List Nat) (vs : List V) : Bool := match ks with
  | [] => true
  | ks => match tys, vs with
    | ty :: _, .ptr _ k _ 0 :: _ => match tb ty with
      | some ⟨_, _, .pt e, _⟩ => Nat.blt k 1000 && ks.all fun j => Nat.ble (szOf tb e) j
      | _ => false
    | _, _ => false
/-- The types of a call's arguments: where the first one's is told otherwise. -/
def fixTys (md : Md) (g : Nat) (tys : List Nat) : List Nat := match (md (3000000 + g)).1, tys with
  | t :: _, _ :: ts => t :: ts
  | _, ts => ts
/-! A call by which some cells of the box that is handed on are not touched: their rows stay where they are, and keep their names. -/
def keepL (md : Md) (g : Nat) : List Nat := (md (2000000 + g)).1
def tokV : Value := .pointer none
def T.isTok : T → Bool
  | .d (.p (.pointer none)) => true
  | _ => false
def keepT (ks : List Nat) : Nat → List V → List V
  | _, [] => []
  | i, c :: cs => (bif ks.contains i then .d (.p tokV) else c) :: keepT ks (i + 1) cs
def unkeep (ks : List Nat) : Nat → List V → List V → List V
  | i, c :: cs, v :: vs => (bif ks.contains i then c else v) :: unkeep ks (i + 1) cs vs
  | _, _, _ => []
def toksOk (ks : List Nat) : Nat → List T → Bool
  | _, [] => true
  | i, t :: ts => (!ks.contains i || t.isTok) && toksOk ks (i + 1) ts
def V.toT1 : V → Option T
  | .d (.p v) => some (.d (.p v))
  | _ => none
def toTs : List V → Option (List T)
  | [] => some []
  | v :: vs => v.toT1.bind fun t => (toTs vs).map fun ts => t :: ts
def T.toV1 : T → Option V
  | .d (.p v) => some (.d (.p v))
  | _ => none
def toVs : List T → Option (List V)
  | [] => some []
  | t :: ts => t.toV1.bind fun v => (toVs ts).map fun vs => v :: vs
def T.toV : T → Option V
  | .agg ts => (toVs ts).map .agg
  | t => t.toV1
def keepV (call : CallF) (g : Nat) (ks : List Nat) (vs : List V) (d : Option Nat) (h : Hp) : Option (V × Hp) :=
  match vs, d with
  | .ptr s k gg 0 :: rest, some d => match h.get s k gg with
    | some (.box cs) => (toTs rest).bind fun rs => (outCells (keepT ks 0 cs) h).bind fun (ts, h1) => (call (g + 1000000) (.ptr ts :: rs)).bind fun (os, ps) =>
      match os, ps with
      | [o], [.ptr us] => if us.length = cs.length ∧ toksOk ks 0 us = true then o.toV.bind fun v => (ldCells s (1000 * (k + 1)) us (h1.mod s k (some .lent))).bind fun (ws, h2) => some (v, h2.mod s k (some (.box (unkeep ks 0 cs ws)))) else none
      | _, _ => none
    | _ => none
  | _, _ => none

/-! ### 6. One operation -/
def constV : Value → V
  | .slice none 0 0 => .nl true 0
  | v => if v.oneCell' then .d (.p v) else .u
def St.ev (S : St) : Operand → V
  | .tmp t => S.env t
  | .const v => constV v
  | .global _ => .u
  | .func f => .d (.p (.func (.func f) #[] #[]))

def sliceV (tb : Tb) (h : Hp) (e d : Nat) (x : V) (lo hi mx : Option V) : Option (V × Hp) :=
  match rowOf h x with
  | some (f, sz, xs) =>
    match (match lo with | some v => v.int? | none => some 0), (match hi with | some v => v.int? | none => some (xs.length : Int)), mx with
    | some l, some r, none =>
      if (tb e).isSome ∧ sz = szOf tb e ∧ 0 ≤ l ∧ l ≤ r ∧ r ≤ xs.length then
        match x, lo with
        | .own s k g, none => match h.get s k g with
          | some (.row true f sz xs) => some (.own d 0 (((h.mod s k none) d 0).1 + 1), (h.mod s k none).new d 0 (.row true f sz (xs.take r.toNat)))
          | _ => some (.d (.l f sz (xs.take r.toNat)), h)
        | .own s k g, some _ => some (.d (.l f sz ((xs.take r.toNat).drop l.toNat)), h.mod s k (some (.row false f sz xs)))
        | _, _ => some (.d (.l f sz ((xs.take r.toNat).drop l.toNat)), h)
      else none
    | _, _, _ => none
  | none => none
/-- x[:r:m]: another's from then on. -/
def sliceM (tb : Tb) (h : Hp) (e : Nat) (x : V) (lo hi mx : Option V) : Option (V × Hp) :=
  match rowOf h x, lo, hi.bind V.int?, mx.bind V.int? with
  | some (f, sz, xs), none, some r, some m =>
    if (tb e).isSome ∧ sz = szOf tb e ∧ 0 ≤ r ∧ r ≤ m ∧ m ≤ xs.length then
      match x with
      | .own s k g => some (.d (.l f sz (xs.take r.toNat)), h.mod s k (some (.row false f sz xs)))
      | _ => some (.d (.l f sz (xs.take r.toNat)), h)
    else none
  | _, _, _, _ => none
def V.notTok (s k : Nat) : V → Bool
  | .own s' k' _ => !(s' == s && k' == k)
  | _ => true
def appendV (tb : Tb) (h : Hp) (e d : Nat) (x y : V) : Option (V × Hp) :=
  match tb e with
  | some ie => match x.fix ie.q, rowOf h (y.fix ie.q) with
    | .nl _ _, some (f', sz', ys) =>
      if sz' = ie.sz ∧ 0 < ie.sz ∧ 0 < ie.by_ ∧ ys.length * ie.by_ ≤ 140737488355328 then some (.own d 0 ((h d 0).1 + 1), h.new d 0 (.row true f' sz' ys)) else none
    | .own s k g, some (f', sz', ys) => match h.get s k g with
      | some (.row true f sz xs) =>
        if sz = ie.sz ∧ sz' = ie.sz ∧ 0 < ie.sz ∧ 0 < ie.by_ ∧ (xs.length + ys.length) * ie.by_ ≤ 140737488355328 ∧ y.notTok s k then
          some (.own d 0 (((h.mod s k none) d 0).1 + 1), (h.mod s k none).new d 0 (.row true (f && f') sz (xs ++ ys)))
        else none
      | _ => none
    | _, _ => none
  | none => none
/-- An own row that has its first name yet gets another one. -/
def renC (c : Nat → Nat → Bool) (s k : Nat) (v : V) (h : Hp) : V × Hp := match v with
  | .own s' k' g => bif c s' k' then match h.get s' k' g with
    | some (.row true f sz xs) => (.own s k (((h.mod s' k' none) s k).1 + 1), (h.mod s' k' none).new s k (.row true f sz xs))
    | _ => (v, h) else (v, h)
  | _ => (v, h)
def renV (s k : Nat) (v : V) (h : Hp) : V × Hp := renC (fun _ k' => Nat.beq (k' % 100) 0 && Nat.blt k' 1000) s k v h
/-- Where a row lies that is put into a box. -/
def homeC (s k : Nat) (v : V) (h : Hp) : V × Hp := match v with
  | .nl f sz => (.own s k ((h s k).1 + 1), h.new s k (.row true f sz []))
  | v => renV s k v h
def homeCs (s : Nat) : Nat → List V → Hp → List V × Hp
  | _, [], h => ([], h)
  | k, v :: vs, h => ((homeC s k v h).1 :: (homeCs s (k + 1) vs (homeC s k v h).2).1, (homeCs s (k + 1) vs (homeC s k v h).2).2)
def homeAt (s k : Nat) (v : V) (h : Hp) : V × Hp := match v with
  | .agg cs => (.agg (homeCs s k cs h).1, (homeCs s k cs h).2)
  | v => homeC s k v h
def homeV (a v : V) (h : Hp) : V × Hp := match a with
  | .ptr s k _ o => homeAt s (1000 * (k + 1) + o) v h
  | _ => (v, h)
def V.idx (f : Bool) (sz : Nat) (xs : List (List D)) (i : Nat) : V → V
  | .own s k g => .ept s k g i 0
  | _ => .rpt f sz xs i 0
/-- The numbers of a list of bytes. -/
def numsOf : List (List D) → Option (List Int)
  | [] => some []
  | [.p (.int .u8 n)] :: r => (numsOf r).map (n :: ·)
  | _ => none
def optV (ρ : Operand → V) : Option Operand → Option (Option Value)
  | some x => (ρ x).val1.map some
  | none => some none
/-- A pointer to something that is there. -/
def alive (h : Hp) : V → Bool
  | .ptr s k g _ => match h.get s k g with | some (.box _) => true | _ => false
  | .ept s k g i _ => match h.get s k g with | some (.row _ _ _ xs) => i < xs.length | _ => false
  | .rpt .. => true
  | _ => false
def V.plus (off : Nat) : V → V
  | .ptr s k g o => .ptr s k g (o + off)
  | .ept s k g i o => .ept s k g i (o + off)
  | .rpt f sz xs i o => .rpt f sz xs i (o + off)
  | v => v
def V.isOwn : V → Bool
  | .own .. => true
  | _ => false
/-- An assignment behind which an own row is a list that does not change any more (a hint of the printer). -/
def frzA (md : Md) (d ty : Nat) : Operand → Bool
  | .tmp t => (md 1000003).1.contains (ty * 10000000000 + d * 100000 + 50000 + t)
  | _ => false
/-- A struct built of lists that do not change (a hint of the printer): nil lists in it are data. -/
def frzB (md : Md) (d ty : Nat) : Bool := (md 1000005).1.contains (ty * 10000000000 + d)
def V.frzN : V → V
  | .nl f sz => .d (.l f sz [])
  | v => v
variable (P : Program) (tb : Tb) (md : Md) (call : CallF)

def exec (o : Oper) (ρ : Operand → V) (h : Hp) : Option (V × Hp) :=
  let d := o.dst.getD 0
  match o.op with
  | .move x => match ρ x with
    | .nl _ _ => match tb o.type with
      | some ⟨_, _, .sl e, _⟩ => some (.nl (flOf tb e) (szOf tb e), h)
      | _ => none
    | v => some (v, h)
  | .assign x => match ρ x with
    | .nl _ _ => match tb o.type with
      | some ⟨_, _, .sl e, _⟩ => some (.own d 1 ((h d 1).1 + 1), h.new d 1 (.row true (flOf tb e) (szOf tb e) []))
      | _ => none
    | v => bif v.isOwn && frzA md d o.type x then (v.toD h).map fun (y, h) => (.d y, h) else
      some (renC (fun s' k' => (Nat.beq (k' % 100) 0 && Nat.blt k' 1000) || (Nat.beq k' 1 && (md 1000003).1.contains (d * 100000 + s'))) d 1 v h)
  | .pick c a b => match ρ c with
    | .d (.p (.bool t)) => some (bif t then ρ a else ρ b, h)
    | _ => none
  | .alloc e => (tb e).map fun i => (.ptr d 0 (((homeCs d 1000 i.z h).2 d 0).1 + 1) 0, (homeCs d 1000 i.z h).2.new d 0 (.box (homeCs d 1000 i.z h).1))
  | .box e x =>
    let r := homeAt d 1000 ((ρ x).fix (elSz tb e)) h
    if (tb e).isSome ∧ r.1.cells.all V.cellOk ∧ r.1.cells.length = szOf tb e then some (.ptr d 0 ((r.2 d 0).1 + 1) 0, r.2.new d 0 (.box r.1.cells)) else none
  | .build t parts => match tb t with
    | some ⟨_, _, .st fs, z⟩ => (fillV tb fs ρ parts.toList z).map fun cs => (.agg (bif frzB md d t then cs.map V.frzN else cs), h)
    | _ => none
  | .buildSlice t len parts => match tb t with
    | some ⟨_, _, .sl e, _⟩ => match tb e with
      | some ie => if 0 < ie.sz ∧ len * ie.sz ≤ 16777216 then
          (fillS tb e ρ parts.toList (List.replicate len ie.z)).bind fun rows => (toDss rows h).map fun (xs, h) =>
            (.own d 0 ((h d 0).1 + 1), h.new d 0 (.row true (ie.fl && xs.all fun x => x.all D.isP) ie.sz xs))
        else none
      | none => none
    | _ => none
  | .load t a => (loadV tb h t (ρ a)).map fun v => (v, h)
  | .store t a x => (storeV tb (homeV (ρ a) ((ρ x).fix (elSz tb t)) h).2 t (ρ a) (homeV (ρ a) ((ρ x).fix (elSz tb t)) h).1).map fun h => (.u, h)
  | .nilCheck x => if alive h (ρ x) then some (ρ x, h) else none
  | .binOp op xT x y _ => (ρ x).val.bind fun a => (ρ y).val.bind fun b => (sc P (do eqGuard op xT x y a b; binOp op xT a b)).map fun v => (v, h)
  | .unOp op _ x => (ρ x).val.bind fun a => (sc P (Op.unary op a)).map fun v => (v, h)
  | .convert src dst x => match tb src with
    | some ⟨_, _, .sl e, _⟩ => match P.underlying e, P.underlying dst, rowOf h (ρ x) with
      | some (.int .u8), some .string, some (_, 1, xs) => (numsOf xs).map fun ns => (.d (.p (.string (strOfNums ns))), h)
      | _, _, _ => none
    | _ => (ρ x).val.bind fun a => (sc P (convert src dst a)).map fun v => (v, h)
  | .makeFunc fn first captured => if first.size = 0 ∧ captured.size = 0 then some (.d (.p (.func fn #[] #[])), h) else none
  | .makeSlice t l c => match tb t with
    | some ⟨_, _, .sl e, _⟩ => match tb e, (ρ l).val1, (ρ c).val1 with
      | some ie, some (.int _ n), some (.int _ m) =>
        if n = m ∧ 0 ≤ n ∧ 0 < ie.sz ∧ ie.by_ * n ≤ 140737488355328 ∧ n ≤ 140737488355328 then
          some (.own d 0 ((h d 0).1 + 1), h.new d 0 (.row true ie.fl ie.sz (List.replicate n.toNat (ie.z.map zD))))
        else none
      | _, _, _ => none
    | _ => none
  | .slice t x lo hi mx => match tb t with
    | some ⟨_, _, .sl e, _⟩ => match mx with
      | none => sliceV tb h e d (ρ x) (lo.map ρ) (hi.map ρ) none
      | some m => sliceM tb h e (ρ x) (lo.map ρ) (hi.map ρ) (some (ρ m))
    | some ⟨_, _, .sc, _⟩ => (ρ x).val1.bind fun a => (optV ρ lo).bind fun l => (optV ρ hi).bind fun r =>
      if mx.isNone then (sc P (Instr.sliceAt t a l r none)).map fun v => (v, h) else none
    | _ => none
  | .fieldAddr st x f => match tb st with
    | some ⟨_, _, .st fs, _⟩ => match fs[f]? with
      | some (off, ft) => if szOf tb ft = 0 then none else if alive h (ρ x) then some ((ρ x).plus off, h) else none
      | none => none
    | _ => none
  | .field t x f => match tb t, ρ x with
    | some ⟨_, _, .st fs, _⟩, .agg cs => match fs[f]? with
      | some (off, ft) => (partV tb ft cs off).map fun v => (v, h)
      | none => none
    | _, _ => none
  | .indexAddr t x ix => match tb t, rowOf h (ρ x), (ρ ix).val1 with
    | some ⟨_, _, .sl e, _⟩, some (f, sz, xs), some (.int _ i) =>
      if 0 ≤ i ∧ i < xs.length ∧ (tb e).isSome ∧ sz = szOf tb e then some ((ρ x).idx f sz xs i.toNat, h) else none
    | _, _, _ => none
  | .index t x ix => (ρ x).val1.bind fun a => (ρ ix).val1.bind fun i => (sc P (Instr.index t a i)).map fun v => (v, h)
  | .extract t ix => match ρ t with
    | .tup vs => (vs[ix]?).map fun v => (v, h)
    | _ => none
  | .call c => match c.callee with
    | .builtin .len => match c.args.toList, c.argTypes.toList with
      | [x], [t] => match tb t with
        | some ⟨_, _, .sl _, _⟩ => (rowOf h (ρ x)).map fun r => (.d (.p (.int .i64 r.2.2.length)), h)
        | some ⟨_, _, .sc, _⟩ => (ρ x).val1.bind fun a => (sc P (Builtin.len_ #[t] o.type #[a])).map fun v => (v, h)
        | _ => none
      | _, _ => none
    | .builtin .append => match c.args.toList, c.argTypes.toList with
      | [x, y], [t, t'] => match tb t with
        | some ⟨_, _, .sl e, _⟩ => if t' = t then appendV tb h e d (ρ x) (ρ y) else none
        | _ => none
      | _, _ => none
    | .value f => match ρ f with
      | .d (.p (.func (.func g) first captured)) =>
        if first.size = 0 ∧ captured.size = 0 ∧ c.args.size = c.argTypes.size ∧ g < 1000000 then (bif (keepL md g).isEmpty then (bif (homeL md g).isEmpty || homedAll h (c.args.toList.map ρ) && outOk tb (outL md g) (fixTys md g c.argTypes.toList) (c.args.toList.map ρ) then callV tb md call g (fixTys md g c.argTypes.toList) (c.args.toList.map ρ) o.dst h else none) else keepV call g (keepL md g) (c.args.toList.map ρ) o.dst h) else none
      | _ => none
    | _ => none
  | _ => none

def wantedV (ops : Array Oper) (env : Nat → V) (o : Oper) : Option Bool :=
  match o.guard with
  | none => some true
  | some (g, want) => match (ops[g]?).bind (·.dst) with
    | some d => match env d with
      | .d (.p (.bool b)) => some (b == want)
      | .tup [] => some false
      | _ => none
    | none => none
def evOp (ops : Array Oper) (o : Oper) (S : St) : Option St :=
  (wantedV ops S.env o).bind fun b =>
    if b then (exec P tb md call o S.ev S.h).map fun r => S.put o.dst r.1 r.2 else some (S.put o.dst (.tup []) S.h)
def evOps (ops : Array Oper) : List Oper → St → Option St
  | [], S => some S
  | o :: os, S => (evOp P tb md call ops o S).bind (evOps ops os)

/-! ### 7. Regions that draw their order -/
def binds1 (o : Oper) : List Nat := (o.after.toList.filter fun e => Region.binds .any e).map (·.on)
/-- What stands before, as the bits of a number. -/
def hasM (m i : Nat) : Bool := Nat.beq (Nat.land (Nat.shiftRight m i) 1) 1
def befM (acc : List Nat) : List Nat → Nat
  | [] => 0
  | j :: js => Nat.lor (Nat.lor (Nat.shiftLeft 1 j) (acc.getD j 0)) (befM acc js)
def befores : List Oper → List Nat → List Nat
  | [], acc => acc
  | o :: os, acc => befores os (acc ++ [befM acc (binds1 o)])
/-- 0: no memory is looked at; 1: memory is read, or made; 2: memory is changed. -/
def cls (o : Oper) : Nat :=
  match o.op with
  | .convert src _ _ => match tb src with
    | some ⟨_, _, .sl _, _⟩ => 2
    | _ => 0
  | .pick .. | .binOp .. | .unOp .. | .extract .. | .field .. | .index .. | .makeFunc .. | .build .. => 0
  | .move _ => 0
  | .slice t _ _ _ _ => match tb t with
    | some ⟨_, _, .sc, _⟩ => 0
    | _ => 2
  | .fieldAddr .. | .nilCheck _ | .load .. | .indexAddr .. | .makeSlice .. | .buildSlice .. | .alloc _ => if o.dst.isSome then 1 else 2
  | .call c => match c.callee with
    | .builtin .len => if o.dst.isSome then 1 else 2
    | .value (.func g) => if !(keepL md g).isEmpty || !(homeL md g).isEmpty || ((md g).1.any (fun i => i != 0) || (fixTys md g c.argTypes.toList).any (fun t => match tb t with | some ⟨_, _, .pt _, _⟩ => true | _ => false)) then 2 else if o.dst.isSome then 1 else 2
    | _ => 2
  | _ => 2
def compat (a b : Nat) : Bool := a == 0 || b == 0 || (a == 1 && b == 1)
/-- It reads, and changes nothing. -/
def isRead (o : Oper) : Bool := o.dst.isSome && (match o.op with | .load .. | .fieldAddr .. | .nilCheck _ | .indexAddr .. => true | _ => false)
/-- A call by a part of a box. -/
def isPart (md : Md) (g : Nat) (tys : List Nat) : Bool := (keepL md g).isEmpty && !(homeL md g).isEmpty && !(outL md g).isEmpty && !((md (3000000 + g)).1.head? == tys.head?)
/-- It changes at most what its operands name, and its own slot. -/
def isFoot (o : Oper) : Bool := match o.op with
  | .store .. => true
  | .assign _ => o.dst.isSome
  | .slice .. => o.dst.isSome
  | .call c => (match c.callee with | .builtin .append => o.dst.isSome | .value (.func g) => (keepL md g).isEmpty && !(homeL md g).isEmpty && !(isPart md g c.argTypes.toList) | _ => false)
  | _ => false
/-- A call that leaves alone what it doesn't name; a new box. -/
def isFootC (o : Oper) : Bool := match o.op with
  | .call c => (match c.callee with | .value (.func g) => (keepL md g).isEmpty && !(homeL md g).isEmpty | _ => false)
  | _ => false
def isAlloc (o : Oper) : Bool := match o.op with
  | .alloc _ => o.dst.isSome
  | _ => false
def baseT (ops : Array Oper) : Nat → Nat → Nat
  | 0, t => t
  | n + 1, t => match ops.toList.find? (fun o => o.dst == some t) with
    | some o => match o.op with
      | .fieldAddr _ (.tmp u) _ | .nilCheck (.tmp u) | .move (.tmp u) | .indexAddr _ (.tmp u) _ => baseT ops n u
      | _ => t
    | none => t
/-- The slots that a reader may look at, where one that changes stands in no order with it. -/
def claimOf (ops : Array Oper) (o : Oper) : List Nat := 999999 :: o.op.operands.toList.flatMap fun x => match x with
  | .tmp t => baseT ops 4 t :: (md 1000004).1.filterMap fun x => bif Nat.beq (x / 100000) (baseT ops 4 t) then some (x % 100000) else none
  | _ => []
/-- A call that keeps some cells; which. -/
def keepOf (o : Oper) : List Nat := match o.op with
  | .call c => (match c.callee with | .value (.func g) => bif o.dst.isSome then (bif isPart md g c.argTypes.toList then outL md g else keepL md g) else [] | _ => [])
  | _ => []
def partOf (o : Oper) : Bool := match o.op with
  | .call c => (match c.callee with | .value (.func g) => isPart md g c.argTypes.toList | _ => false)
  | _ => false
def apartK (x y : Oper) : Bool := isRead x && !(keepOf md y).isEmpty
def apartR (ops : Array Oper) (x y : Oper) : Bool := isRead x && isFoot md y && y.dst.toList.all fun d => !(claimOf md ops x).contains d
/-- The calls that keep some cells, and stand in no order with the j-th operation: what they keep. -/
def keepsBy (ops : Array Oper) (bf : List Nat) (j : Nat) : List (List Nat) :=
  (List.range ops.size).filterMap fun i => bif i == j || hasM (bf.getD j 0) i || hasM (bf.getD i 0) j then none else match ops[i]? with | some o => bif (keepOf md o).isEmpty then none else some (keepOf md o) | none => none
def inter : List (List Nat) → List Nat
  | [] => []
  | l :: ls => l.filter fun o => ls.all fun m => m.contains o
def pairOk (ops : Array Oper) (bf : List Nat) (i j : Nat) : Bool :=
  hasM (bf.getD j 0) i || (match ops[i]?, ops[j]? with | some x, some y => x.apart ops y && y.apart ops x && (compat (cls tb md x) (cls tb md y) || apartR md ops x y || apartR md ops y x || apartK md x y || (apartK md y x && partOf md x) || (isFootC md x && isAlloc y) || (isFootC md y && isAlloc x)) | _, _ => false)
def drawOk (ops : Array Oper) : Bool :=
  let bf := befores ops.toList []
  (List.range ops.size).all fun j => (match ops[j]? with | some o => (binds1 o).all (· < j) | none => false) && (List.range j).all fun i => pairOk tb md ops bf i j
def V.tok1 : V → List Nat
  | .own s _ _ => [s]
  | .ptr s _ _ _ => [s]
  | .ept s _ _ _ _ => [s]
  | _ => []
def V.toks : V → List Nat
  | .agg cs => cs.flatMap V.tok1
  | v => v.tok1
/-- Slots that the operations of a class not 0 that stand in no order with the j-th write. -/
def clash (ops : Array Oper) (bf : List Nat) (j : Nat) : List Nat :=
  (List.range ops.size).flatMap fun i => if i == j || hasM (bf.getD j 0) i || hasM (bf.getD i 0) j then [] else
    match ops[i]? with
    | some o => (if cls tb md o == 0 then [] else o.dst.toList) ++ (match ops[j]? with | some y => if isFoot md y && isRead o then claimOf md ops o else [] | none => [])
    | none => []
def footBy (ops : Array Oper) (bf : List Nat) (j : Nat) : Bool := (List.range ops.size).any (fun i => !(i == j || hasM (bf.getD j 0) i || hasM (bf.getD i 0) j) && (match ops[i]? with | some o => isFoot md o | none => false))
def claims (ops : Array Oper) (bf : List Nat) (j : Nat) : List Nat :=
  match ops[j]? with
  | some x => bif isRead x then (bif (keepsBy md ops bf j).isEmpty then (bif footBy md ops bf j then claimOf md ops x else [])
      else (bif footBy md ops bf j then 999997 :: (inter (keepsBy md ops bf j)).length :: (inter (keepsBy md ops bf j) ++ claimOf md ops x) else 999998 :: inter (keepsBy md ops bf j))) else []
  | none => []
def V.keptIn (ks : List Nat) : V → Bool
  | .ptr _ k _ o => Nat.blt k 1000 && ks.contains o
  | _ => false
def V.inBox : V → Bool
  | .ptr _ k _ _ => Nat.blt k 1000
  | _ => false
def rdK (tb : Tb) (ρ : Operand → V) (o : Oper) (ks : List Nat) : Bool := match o.op with
  | .load t a => (ρ a).keptIn ks && !isAgg tb t
  | .fieldAddr _ x _ => (ρ x).inBox
  | .nilCheck x => (ρ x).inBox
  | _ => false
def within (tb : Tb) (ρ : Operand → V) (o : Oper) (cl : List Nat) : Bool := match cl with
  | [] => true
  | 999998 :: ks => rdK tb ρ o ks
  | 999997 :: n :: l => rdK tb ρ o (l.take n) && o.op.operands.toList.all fun x => (ρ x).toks.all fun s => (l.drop n).contains s
  | cl => o.op.operands.toList.all fun x => (ρ x).toks.all fun s => cl.contains s
def freeOf (ρ : Operand → V) (o : Oper) (cl : List Nat) : Bool :=
  o.op.operands.toList.all fun x => (ρ x).toks.all fun s => !cl.contains s
def evOpsD (ops : Array Oper) (bf : List Nat) : Nat → List Oper → St → Option St
  | _, [], S => some S
  | j, o :: os, S => if cls tb md o == 0 || (freeOf S.ev o (clash tb md ops bf j) && within tb S.ev o (claims md ops bf j)) then (evOp P tb md call ops o S).bind (evOpsD ops bf (j + 1) os) else none
def evRegion (ops : Array Oper) (draw : Bool) (S : St) : Option St :=
  if draw then (if drawOk tb md ops then evOpsD P tb md call ops (befores ops.toList []) 0 ops.toList S else none)
  else evOps P tb md call ops ops.toList S

/-! ### 8. Code and functions -/
inductive Out where
  | nrm | ret | ex (id : Nat)
  deriving DecidableEq
def Out.unblock (id : Nat) : Out → Out
  | .ex i => if i = id then .nrm else .ex i
  | o => o
/-- Generations made literal: 2 for what is there, 0 for what is gone; names behind the frame's own slots are left. -/
def ngen (n : Nat) (h : Hp) (s k g : Nat) : Nat := bif Nat.ble n s && Nat.beq k 0 then g else bif Nat.beq (h s k).1 g then 2 else 0
def V.nrm1 (n : Nat) (h : Hp) : V → V
  | .own s k g => .own s k (ngen n h s k g)
  | v => v
def V.nrm (n : Nat) (h : Hp) : V → V
  | .own s k g => .own s k (ngen n h s k g)
  | .ptr s k g o => .ptr s k (ngen n h s k g) o
  | .ept s k g i o => .ept s k (ngen n h s k g) i o
  | .agg cs => .agg (cs.map (V.nrm1 n h))
  | .tup _ => .u
  | v => v
def Ob.nrm (n : Nat) (h : Hp) : Ob → Ob
  | .box cs => .box (cs.map (V.nrm n h))
  | b => b
def Hp.nrm (n : Nat) (h : Hp) : Hp := fun s k => (bif Nat.ble n s && Nat.beq k 0 then (h s k).1 else 2, (h s k).2.map (Ob.nrm n h))
def St.norm (S : St) : St := ⟨S.n, fun i => (S.env i).nrm S.n S.h, S.h.nrm S.n⟩
def evLoop (f : St → Option (Out × St)) : Nat → St → Option (Out × St)
  | 0, _ => none
  | n + 1, S => (f S.norm).bind fun (o, S) => match o with
    | .nrm => evLoop f n S
    | o => some (o, S)
def _root_.Go.Code.isReg : Code → Bool
  | .region _ ops _ => ops.toList.all fun o => o.guard.isNone && match o.op with | .store .. => false | _ => true
  | _ => false
/-- A state between two pieces of code. -/
def sq (a : Code) (S : St) : St := bif a.isReg then S else S.norm
def evC (n : Nat) : Code → St → Option (Out × St)
  | .skip, S => some (.nrm, S)
  | .region _ ops draw, S => (evRegion P tb md call ops draw S).map fun S => (.nrm, S)
  | .seq a b, S => (evC n a S).bind fun (o, S) => match o with
    | .nrm => evC n b (sq a S)
    | o => some (o, S)
  | .cond c a b, S => match S.ev c with
    | .d (.p (.bool t)) => bif t then evC n a S else evC n b S
    | _ => none
  | .block id c, S => (evC n c S).map fun (o, S) => (o.unblock id, S)
  | .loop c, S => evLoop (evC n c) n S
  | .exit id, S => some (.ex id, S)
  | .ret, S => some (.ret, S)
  | _, _ => none

def resV (fn : Func) (S : St) : Option (List V) :=
  fn.results.toList.mapM fun r => match r with
    | .tmp t => some (S.env t)
    | .cell a t => loadV tb S.h t (S.env a)
/-- A result, moved out of the callee's heap. -/
def retT (ty : Nat) (own : Bool) (h : Hp) (v : V) : Option (T × Hp) :=
  match v.fix (elSz tb ty) with
  | .agg cs => (roCells h cs).map fun (ts, a) => (.agg ts, freezes a h)
  | .ptr s k g 0 => match h.get s k g with
    | some (.box cs) => (outCells cs h).map fun (ts, h) => (.ptr ts, h.mod s k none)
    | _ => none
  | v => if own then match outCell h v with
      | some (.own f sz xs, h) => some (.own f sz xs, h)
      | _ => none
    else (roCell h v).map fun (t, a) => (t, freezes a h)
def retTs (owns : List Bool) : Nat → List Nat → List V → Hp → Option (List T × Hp)
  | _, _, [], h => some ([], h)
  | i, ty :: tys, v :: vs, h => (retT tb ty (owns.getD i false) h v).bind fun (t, h) => (retTs owns (i + 1) tys vs h).map fun (ts, h) => (t :: ts, h)
  | _, [], _ :: _, _ => none
/-- What the boxes hold that came in by pointers: those of the parameters i, i + 1, .. -/
def outPs : Nat → List T → Hp → Option (List T)
  | _, [], _ => some []
  | i, .ptr _ :: ts, h => match h.get i 0 1 with
    | some (.box cs) => (outCells cs h).bind fun (us, h) => (outPs (i + 1) ts (h.mod i 0 none)).map fun r => .ptr us :: r
    | _ => none
  | i, .lend _ _ _ :: ts, h => match h.get i 0 1 with
    | some (.row true f sz xs) => (outPs (i + 1) ts (h.mod i 0 none)).map fun r => .own f sz xs :: r
    | _ => none
  | i, _ :: ts, h => outPs (i + 1) ts h

abbrev Prim := Nat → Option (List T → Option (List T × List T))
def evF (prim : Prim) : Nat → CallF
  | 0, _, _ => none
  | n + 1, f, ts => match prim f with
    | some g => g ts
    | none => match P.funcs[f]? with
      | some fn => match fn.body with
        | some c => if ts.length = fn.params.size ∧ ts.length ≤ fn.ntmps then
            (ldPs fn.ntmps fn.ntmps ts Hp.nil).bind fun (vs, h) => (evC P tb md (evF prim n) n c ⟨fn.ntmps, fun i => vs.getD i (.tup []), h⟩).bind fun (o, S) => match o with
              | .ex _ => none
              | _ => (resV tb fn S).bind fun rs => (retTs tb (md f).2 0 fn.resultTypes.toList rs S.h).bind fun (us, h) => (outPs fn.ntmps ts h).map fun ps => (us, ps)
          else none
        | none => none
      | none => none
end Go.Ev
