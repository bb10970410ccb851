/- The evaluator: EvRel. -/
import Derived.Test.YtifomiglajcanaaGreatDoorEvDef
set_option linter.unusedSimpArgs false
set_option linter.unusedVariables false
namespace Go.Ev
set_option linter.unusedVariables false

/-! ### What a value stands for in a world. 'B': cells that may change -/
inductive RO (B : Nat → Nat → Prop) (w : World) : D → Value → Prop
  | p (v : Value) (h : v.oneCell' = true) : RO B w (.p v) v
  | l (f : Bool) (sz : Nat) (xs : List (List D)) (A : Option Addr) (c : Nat) (u : Nat → Nat → Value) (hc : xs.length ≤ c)
      (hz : ∀ x ∈ xs, x.length = sz) (hf : f = true → ∀ x ∈ xs, x.all D.isP = true)
      (ha : xs ≠ [] → ∃ g o, A = some ⟨g, o, none⟩ ∧ ∀ i j, i < xs.length → j < sz → w.cell? ⟨g, o + (i * sz + j), none⟩ = some (u i j) ∧ ¬ B g (o + (i * sz + j)))
      (hr : ∀ (i : Nat) x (j : Nat) y, xs[i]? = some x → x[j]? = some y → RO B w y (u i j)) : RO B w (.l f sz xs) (.slice A xs.length c)

/-- A row of one's own, without its type. -/
def OwnRow (w : World) (v : Value) (sz n : Nat) (us : List Value) : Prop :=
  us.length = n * sz ∧ ((v = .slice none 0 0 ∧ n = 0) ∨
    ∃ g cap cur e, v = .slice (some ⟨g, 0, none⟩) n cap ∧ w.heap[g]? = some (.cells cur e (0, 0)) ∧ n ≤ cap ∧ cap ≤ maxLen ∧ cur.size = cap * sz ∧ cur.toList.take (n * sz) = us)
def OwnR (B : Nat → Nat → Prop) (w : World) (v : Value) (f : Bool) (sz : Nat) (xs : List (List D)) : Prop :=
  ∃ us : List Value, OwnRow w v sz xs.length us ∧ (∀ x ∈ xs, x.length = sz) ∧ (f = true → ∀ x ∈ xs, x.all D.isP = true) ∧
    ∀ (i : Nat) x (j : Nat) y, xs[i]? = some x → x[j]? = some y → ∃ u, us[i * sz + j]? = some u ∧ RO B w y u

abbrev Cz := Nat → Nat → Value
inductive RV (B : Nat → Nat → Prop) (w : World) (h : Hp) (c : Cz) : V → Value → Prop
  | d {x v} (hx : RO B w x v) : RV B w h c (.d x) v
  | nl {f sz} : RV B w h c (.nl f sz) (.slice none 0 0)
  | agg {cs : List V} {us : Array Value} (hl : cs.length = us.size) (ho : ∀ x ∈ cs, x.cellOk = true)
      (h1 : ∀ (j : Nat) u, us[j]? = some u → u.oneCell' = true) (hr : ∀ (j : Nat) x u, cs[j]? = some x → us[j]? = some u → RV B w h c x u) : RV B w h c (.agg cs) (.agg us)
  | own {s k g v} (hg : g ≤ (h s k).1) (hv : ∀ ob, h.get s k g = some ob → ob.isB = false → v = c s k) (h1 : v.oneCell' = true) : RV B w h c (.own s k g) v
  | ptr {s k g o v} (hg : g ≤ (h s k).1) (hv : ∀ ob, h.get s k g = some ob → ob.isB = true → ∃ a : Addr, c s k = .pointer (some a) ∧ a.spot = none ∧ v = .pointer (some ⟨a.block, a.off + o, none⟩)) : RV B w h c (.ptr s k g o) v
  | ept {s k g i o v} (hg : g ≤ (h s k).1) (hv : ∀ ob, h.get s k g = some ob → ob.isB = false → i < ob.dim.2 → ∃ b q n p, c s k = .slice (some ⟨b, q, none⟩) n p ∧ v = .pointer (some ⟨b, q + (i * ob.dim.1 + o), none⟩)) : RV B w h c (.ept s k g i o) v
  | rpt {f sz xs i o b q n p v} (hx : RO B w (.l f sz xs) (.slice (some ⟨b, q, none⟩) n p)) (hi : i < xs.length) (hv : v = .pointer (some ⟨b, q + (i * sz + o), none⟩)) : RV B w h c (.rpt f sz xs i o) v
  | tup {vs : List V} {us : Array Value} (hl : vs.length = us.size) (hr : ∀ (j : Nat) x u, vs[j]? = some x → us[j]? = some u → RV B w h c x u) : RV B w h c (.tup vs) (.tuple us)
  | u {v} : RV B w h c .u v

def BoxR (B : Nat → Nat → Prop) (w : World) (h : Hp) (c : Cz) (v : Value) (cs : List V) : Prop :=
  ∃ a : Addr, v = .pointer (some a) ∧ a.spot = none ∧ ∀ (j : Nat) x, cs[j]? = some x → x.cellOk = true ∧
    ∃ u, w.cell? ⟨a.block, a.off + j, none⟩ = some u ∧ w.frozen? ⟨a.block, a.off + j, none⟩ = false ∧ u.oneCell' = true ∧ RV B w h c x u
def ObR (B : Nat → Nat → Prop) (w : World) (h : Hp) (c : Cz) : Ob → Value → Prop
  | .row false f sz xs, v => RO B w (.l f sz xs) v
  | .row true f sz xs, v => OwnR B w v f sz xs
  | .box cs, v => BoxR B w h c v cs
  | .lent, _ => True
  | .lentR .., _ => True
def cellsOf : Ob → Value → Nat → Nat → Prop
  | .row false _ _ _, _, _, _ => False
  | .row true _ _ _, .slice (some a) _ _, g, _ => a.block = g
  | .row true _ _ _, _, _, _ => False
  | .box cs, .pointer (some a), g, o => a.block = g ∧ a.off ≤ o ∧ o < a.off + cs.length
  | .box _, _, _, _ => False
  | .lent, _, _, _ => False
  | .lentR .., _, _, _ => False
def Mut (h : Hp) (c : Cz) (g o : Nat) : Prop := ∃ s k ob, (h s k).2 = some ob ∧ cellsOf ob (c s k) g o
def Bad (X : Nat → Nat → Prop) (h : Hp) (c : Cz) (g o : Nat) : Prop := X g o ∨ Mut h c g o

/-- The world that the whole began in. -/
class Base where
  w0 : World
/-- What was there at the beginning is as it was; of it nothing may be changed. -/
def Bs [Base] (w : World) (B : Nat → Nat → Prop) : Prop := Base.w0.heap.size ≤ w.heap.size ∧ (∀ g, g < Base.w0.heap.size → w.heap[g]? = Base.w0.heap[g]?) ∧ ∀ g o, B g o → Base.w0.heap.size ≤ g
structure HR [Base] (X : Nat → Nat → Prop) (w : World) (h : Hp) (c : Cz) : Prop where
  bs : Bs w (Bad X h c)
  ok : ∀ s k ob, (h s k).2 = some ob → ObR (Bad X h c) w h c ob (c s k)
  sep : ∀ s k s' k' ob ob' g o, (h s k).2 = some ob → (h s' k').2 = some ob' → ¬ (s = s' ∧ k = k') → cellsOf ob (c s k) g o → ¬ cellsOf ob' (c s' k') g o
  nx : ∀ g o, Mut h c g o → ¬ X g o
  xl : ∀ g o, X g o → g < w.heap.size

/-! ### Worlds -/
/-- Outside of M, and of what is new, w' is as w is. -/
structure Fr (M : Nat → Nat → Prop) (w w' : World) : Prop where
  os : w'.os = w.os
  tape : w'.tape = w.tape
  output : w'.output = w.output
  size : w.heap.size ≤ w'.heap.size
  blk : ∀ g, g < w.heap.size → (∀ o, ¬ M g o) → w'.heap[g]? = w.heap[g]?
  cell : ∀ g o, g < w.heap.size → ¬ M g o → w'.cell? ⟨g, o, none⟩ = w.cell? ⟨g, o, none⟩ ∧ w'.frozen? ⟨g, o, none⟩ = w.frozen? ⟨g, o, none⟩
theorem Fr.refl (M : Nat → Nat → Prop) (w : World) : Fr M w w := ⟨rfl, rfl, rfl, Nat.le_refl _, fun _ _ _ => rfl, fun _ _ _ _ => ⟨rfl, rfl⟩⟩
theorem Fr.trans {M M' M₀ : Nat → Nat → Prop} {a b c : World} (h : Fr M a b) (k : Fr M' b c) (h1 : ∀ g o, g < a.heap.size → M g o → M₀ g o) (h2 : ∀ g o, g < a.heap.size → M' g o → M₀ g o) : Fr M₀ a c :=
  ⟨k.os.trans h.os, k.tape.trans h.tape, k.output.trans h.output, Nat.le_trans h.size k.size,
   fun g hg hn => (k.blk g (Nat.lt_of_lt_of_le hg h.size) fun o ho => hn o (h2 g o hg ho)).trans (h.blk g hg fun o ho => hn o (h1 g o hg ho)),
   fun g o hg hn => by
    obtain ⟨p, q⟩ := k.cell g o (Nat.lt_of_lt_of_le hg h.size) fun ho => hn (h2 g o hg ho)
    obtain ⟨p', q'⟩ := h.cell g o hg fun ho => hn (h1 g o hg ho)
    exact ⟨p.trans p', q.trans q'⟩⟩
theorem Fr.mono {M M' : Nat → Nat → Prop} {a b : World} (h : Fr M a b) (hm : ∀ g o, g < a.heap.size → M g o → M' g o) : Fr M' a b :=
  ⟨h.os, h.tape, h.output, h.size, fun g hg hn => h.blk g hg fun o ho => hn o (hm g o hg ho), fun g o hg hn => h.cell g o hg fun ho => hn (hm g o hg ho)⟩
theorem Fr.drew (M : Nat → Nat → Prop) (w : World) : Fr M w w.drew := ⟨rfl, rfl, rfl, Nat.le_refl _, fun _ _ _ => rfl, fun _ _ _ _ => ⟨rfl, rfl⟩⟩

theorem Bs.step [Base] {B B' M : Nat → Nat → Prop} {w w' : World} (b : Bs w B) (F : Fr M w w') (hM : ∀ g o, g < w.heap.size → M g o → B g o) (hb : ∀ g o, g < w.heap.size → B' g o → B g o) : Bs w' B' := by
  have h1 := b.1
  refine ⟨Nat.le_trans h1 F.size, fun g hg => (F.blk g (by omega) fun o ho => ?_).trans (b.2.1 g hg), fun g o h => ?_⟩
  · have := b.2.2 g o (hM g o (by omega) ho); omega
  · by_cases hg : g < w.heap.size
    · exact b.2.2 g o (hb g o hg h)
    · omega
theorem Bs.sub [Base] {B B' : Nat → Nat → Prop} {w : World} (b : Bs w B) (hb : ∀ g o, g < w.heap.size → B' g o → B g o) : Bs w B' := b.step (Fr.refl (fun _ _ => False) w) (fun _ _ _ h => h.elim) hb
theorem cell_lt {w : World} {g o : Nat} {u : Value} (h : w.cell? ⟨g, o, none⟩ = some u) : g < w.heap.size := World.block_lt_of_cell? w _ h

theorem RO.keep {B B' : Nat → Nat → Prop} {w w' : World} (hk : ∀ g o, g < w.heap.size → ¬ B g o → w'.cell? ⟨g, o, none⟩ = w.cell? ⟨g, o, none⟩)
    (hb : ∀ g o, g < w.heap.size → B' g o → B g o) {x : D} {v : Value} (h : RO B w x v) : RO B' w' x v := by
  induction h with
  | p v h => exact .p v h
  | l f sz xs A c u hc hz hf ha hr ih =>
    refine .l f sz xs A c u hc hz hf (fun hne => ?_) ih
    obtain ⟨g, o, e, hh⟩ := ha hne
    refine ⟨g, o, e, fun i j hi hj => ?_⟩
    obtain ⟨h1, h2⟩ := hh i j hi hj
    exact ⟨(hk _ _ (cell_lt h1) h2).trans h1, fun hbad => h2 (hb _ _ (cell_lt h1) hbad)⟩

theorem OwnRow.keep {w w' : World} {v : Value} {sz n : Nat} {us : List Value} (h : OwnRow w v sz n us) (hk : ∀ g c q, v = .slice (some ⟨g, 0, none⟩) q c → w'.heap[g]? = w.heap[g]?) : OwnRow w' v sz n us := by
  refine ⟨h.1, h.2.imp id ?_⟩
  rintro ⟨g, cap, cur, e, hv, hg, rest⟩
  exact ⟨g, cap, cur, e, hv, (hk g _ _ hv).trans hg, rest⟩

/-- What a step may do to names: numbers grow; what is still there under its number lies where it lay. -/
structure Nm (h : Hp) (c : Cz) (h' : Hp) (c' : Cz) : Prop where
  gen : ∀ s k, (h s k).1 ≤ (h' s k).1
  row : ∀ s k ob, ob.isB = false → (h' s k).1 = (h s k).1 → (h' s k).2 = some ob → c' s k = c s k ∧ ∃ ob', ob'.isB = false ∧ (h s k).2 = some ob' ∧ ob'.dim = ob.dim
  box : ∀ s k ob, ob.isB = true → (h' s k).1 = (h s k).1 → (h' s k).2 = some ob → c' s k = c s k ∧ ∃ ob', ob'.isB = true ∧ (h s k).2 = some ob'

theorem get_some {h : Hp} {s k g : Nat} {ob : Ob} (e : h.get s k g = some ob) : (h s k).1 = g ∧ (h s k).2 = some ob := by
  rw [Hp.get_def] at e
  split at e
  · exact ⟨‹_›, e⟩
  · cases e
theorem get_of {h : Hp} {s k g : Nat} {ob : Ob} (e : (h s k).1 = g) (e2 : (h s k).2 = some ob) : h.get s k g = some ob := by
  simp only [Hp.get_def]; rw [if_pos e, e2]

theorem RV.keep {B B' : Nat → Nat → Prop} {w w' : World} {h h' : Hp} {c c' : Cz} (hk : ∀ g o, g < w.heap.size → ¬ B g o → w'.cell? ⟨g, o, none⟩ = w.cell? ⟨g, o, none⟩)
    (hb : ∀ g o, g < w.heap.size → B' g o → B g o) (hn : Nm h c h' c') {x : V} {v : Value} (r : RV B w h c x v) : RV B' w' h' c' x v := by
  induction r with
  | d hx => exact .d (hx.keep hk hb)
  | nl => exact .nl
  | agg hl ho h1 hr ih => exact .agg hl ho h1 ih
  | @own s k g v hg hv h1 =>
    refine .own (Nat.le_trans hg (hn.gen s k)) (fun ob e hb => ?_) h1
    obtain ⟨e1, e2⟩ := get_some e
    have h3 : (h' s k).1 = (h s k).1 := Nat.le_antisymm (e1 ▸ hg) (hn.gen s k)
    obtain ⟨e3, ob', hb', e4, _⟩ := hn.row s k ob hb h3 e2
    rw [e3]
    exact hv ob' (get_of (h3 ▸ e1) e4) hb'
  | @ptr s k g o v hg hv =>
    refine .ptr (Nat.le_trans hg (hn.gen s k)) fun ob e hb => ?_
    obtain ⟨e1, e2⟩ := get_some e
    have h3 : (h' s k).1 = (h s k).1 := Nat.le_antisymm (e1 ▸ hg) (hn.gen s k)
    obtain ⟨e3, ob', e4, e5⟩ := hn.box s k ob hb h3 e2
    rw [e3]
    exact hv ob' (get_of (h3 ▸ e1) e5) e4
  | @ept s k g i o v hg hv =>
    refine .ept (Nat.le_trans hg (hn.gen s k)) fun ob e hb hi => ?_
    obtain ⟨e1, e2⟩ := get_some e
    have h3 : (h' s k).1 = (h s k).1 := Nat.le_antisymm (e1 ▸ hg) (hn.gen s k)
    obtain ⟨e3, ob', hb', e4, e5⟩ := hn.row s k ob hb h3 e2
    rw [e3, ← e5]
    exact hv ob' (get_of (h3 ▸ e1) e4) hb' (e5 ▸ hi)
  | rpt hx hi hv => exact .rpt (hx.keep hk hb) hi hv
  | tup hl hr ih => exact .tup hl fun j x u a b => ih j x u a b
  | u => exact .u

/-- A step: from (w, h, c) to (w', h', c'), the cells M having been written. -/
structure Mv [Base] (X M : Nat → Nat → Prop) (w : World) (h : Hp) (c : Cz) (w' : World) (h' : Hp) (c' : Cz) : Prop where
  fr : Fr M w w'
  inM : ∀ g o, g < w.heap.size → M g o → Mut h c g o
  mut_ : ∀ g o, g < w.heap.size → Mut h' c' g o → Mut h c g o
  nm : Nm h c h' c'
  hr : HR X w' h' c'
theorem Mv.rv [Base] {X M : Nat → Nat → Prop} {w w' : World} {h h' : Hp} {c c' : Cz} (m : Mv X M w h c w' h' c') {x : V} {v : Value} (r : RV (Bad X h c) w h c x v) : RV (Bad X h' c') w' h' c' x v :=
  r.keep (fun g o hg hn => (m.fr.cell g o hg fun hm => hn (.inr (m.inM g o hg hm))).1) (fun g o hg hb => hb.imp id (m.mut_ g o hg)) m.nm
theorem Mv.ro [Base] {X M : Nat → Nat → Prop} {w w' : World} {h h' : Hp} {c c' : Cz} (m : Mv X M w h c w' h' c') {x : D} {v : Value} (r : RO (Bad X h c) w x v) : RO (Bad X h' c') w' x v :=
  r.keep (fun g o hg hn => (m.fr.cell g o hg fun hm => hn (.inr (m.inM g o hg hm))).1) (fun g o hg hb => hb.imp id (m.mut_ g o hg))
end Go.Ev
