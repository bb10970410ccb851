/- The evaluator: EvMem. -/
import Derived.Test.YtifomiglajcanaaGreatDoorEvStep
import Derived.Laws.IdiomCopy
import Derived.Laws.CopyRow
import Derived.Laws.Tables
import Derived.Laws.Cells
set_option linter.unusedSimpArgs false
set_option linter.unusedVariables false
namespace Go.Ev
set_option linter.unusedVariables false
variable {P : Program} {tb : Tb} {X M : Nat → Nat → Prop} {w w' : World} {h h' : Hp} {c c' : Cz}

/-! ### Types -/
def z0 : V → Value
  | .d (.p v) => v
  | .nl .. => .slice none 0 0
  | _ => undef
def zOk : V → Bool
  | .d (.p v) => v.oneCell'
  | .nl .. => true
  | _ => false
def TIok (P : Program) (tb : Tb) (t : Nat) (i : TI) : Prop :=
  ∃ pi z, P.info? t = some pi ∧ pi.size = i.sz ∧ pi.bytes = i.by_ ∧ pi.zero = some z ∧ z.cells.toList = i.z.map z0 ∧ i.z.length = i.sz ∧ i.z.all zOk = true ∧
  match i.k with
  | .st fs => ∃ fa, P.underlying t = some (.struct fa) ∧ fa.toList.map (fun f => (f.offset, f.type)) = fs ∧ ∀ p ∈ fs, ∃ qi, P.info? p.2 = some qi ∧ qi.size = szOf tb p.2
  | .sl e => P.underlying t = some (.slice e)
  | .pt e => P.underlying t = some (.pointer e)
  | .sc => P.underlying t = some .bool ∨ P.underlying t = some .string ∨ ∃ k, P.underlying t = some (.int k)
  | .ot => False
structure TbOk (P : Program) (tb : Tb) : Prop where
  ok : ∀ t i, tb t = some i → TIok P tb t i

theorem TbOk.size (T : TbOk P tb) {t : Nat} {i : TI} (ht : tb t = some i) : ∃ pi, P.info? t = some pi ∧ pi.size = i.sz := by
  obtain ⟨pi, z, h1, h2, _⟩ := T.ok t i ht
  exact ⟨pi, h1, h2⟩
theorem szOf_of {t : Nat} {i : TI} (ht : tb t = some i) : szOf tb t = i.sz := by simp only [szOf, ht]
theorem TbOk.run_size [Base] (T : TbOk P tb) {t : Nat} {i : TI} (ht : tb t = some i) (w : World) : (sizeOf t).run P w = .ok i.sz w := by
  obtain ⟨pi, h1, h2⟩ := T.size ht
  simp [sizeOf, typeInfo, h1, h2]
theorem TbOk.run_agg (T : TbOk P tb) {t : Nat} {i : TI} (ht : tb t = some i) (w : World) : (Go.isAgg t).run P w = .ok (isAgg tb t) w := by
  obtain ⟨pi, z, h1, _, _, _, _, _, _, hk⟩ := T.ok t i ht
  obtain ⟨isz, iby, k, iz⟩ := i
  cases k with
  | sc => rcases hk with hu | hu | ⟨k, hu⟩ <;> simp [Go.isAgg, run_underlying hu, isAgg, ht]
  | sl e => simp [Go.isAgg, run_underlying hk, isAgg, ht]
  | pt e => simp [Go.isAgg, run_underlying hk, isAgg, ht]
  | st fs => obtain ⟨fa, hu, _⟩ := hk; simp [Go.isAgg, run_underlying hu, isAgg, ht]
  | ot => exact hk.elim
theorem TbOk.slice (T : TbOk P tb) {t e a b : Nat} {z : List V} (ht : tb t = some ⟨a, b, .sl e, z⟩) : P.underlying t = some (.slice e) := by
  obtain ⟨pi, z, _, _, _, _, _, _, _, hk⟩ := T.ok t _ ht
  exact hk
theorem TbOk.struct (T : TbOk P tb) {t a b : Nat} {fs : List (Nat × Nat)} {z : List V} (ht : tb t = some ⟨a, b, .st fs, z⟩) :
    ∃ fa, P.underlying t = some (.struct fa) ∧ fa.toList.map (fun f => (f.offset, f.type)) = fs ∧ ∀ p ∈ fs, ∃ qi, P.info? p.2 = some qi ∧ qi.size = szOf tb p.2 := by
  obtain ⟨pi, z, _, _, _, _, _, _, _, hk⟩ := T.ok t _ ht
  exact hk
theorem TbOk.zero (T : TbOk P tb) {t : Nat} {i : TI} (ht : tb t = some i) : ∃ z, (∀ w, (zeroValue t).run P w = .ok z w) ∧ z.cells.toList = i.z.map z0 ∧ i.z.length = i.sz ∧ i.z.all zOk = true := by
  obtain ⟨pi, z, h1, _, _, h2, h3, h4, h5, _⟩ := T.ok t i ht
  exact ⟨z, fun w => by simp [zeroValue, typeInfo, h1, h2], h3, h4, h5⟩

theorem RO.one {B : Nat → Nat → Prop} {x : D} {v : Value} (h : RO B w x v) : v.oneCell' = true := by
  cases h with
  | p v h => exact h
  | l => rfl
theorem RV.one [Base] {B : Nat → Nat → Prop} {x : V} {v : Value} (h : RV B w h c x v) (ho : x.cellOk = true) : v.oneCell' = true := by
  cases h with
  | d hx => exact hx.one
  | nl => rfl
  | own _ _ h1 => exact h1
  | agg | ptr | ept | rpt | tup | u => cases ho
theorem RV.zero {B : Nat → Nat → Prop} {x : V} (h1 : zOk x = true) : RV B w h c x (z0 x) ∧ x.cellOk = true ∧ (z0 x).oneCell' = true := by
  cases x with
  | d x => cases x with
    | p v => exact ⟨.d (.p v h1), rfl, h1⟩
    | l => cases h1
  | nl f sz => exact ⟨.nl, rfl, rfl⟩
  | agg | own | ptr | ept | rpt | tup | u => cases h1

/-! ### Cells that are read -/
/-- From (b, q) on lie the cells cs. -/
def At (B : Nat → Nat → Prop) (w : World) (h : Hp) (c : Cz) (b q : Nat) (cs : List V) : Prop :=
  ∀ (j : Nat) x, cs[j]? = some x → x.cellOk = true ∧ ∃ u, w.cell? ⟨b, q + j, none⟩ = some u ∧ u.oneCell' = true ∧ RV B w h c x u

theorem addr_add (b q j : Nat) : (⟨b, q, none⟩ : Addr).add j = ⟨b, q + j, none⟩ := by unfold Addr.add; split <;> simp_all

theorem At.values {B : Nat → Nat → Prop} {b q : Nat} : ∀ {cs : List V}, At B w h c b q cs → ∃ us : List Value, us.length = cs.length ∧ (∀ j u, us[j]? = some u → w.cell? ⟨b, q + j, none⟩ = some u ∧ u.oneCell' = true) ∧
    ∀ (j : Nat) x u, cs[j]? = some x → us[j]? = some u → RV B w h c x u
  | [], _ => ⟨[], rfl, by simp, by simp⟩
  | x :: cs, H => by
    obtain ⟨_, u, h1, h2, h3⟩ := H 0 x rfl
    have H' : At B w h c b (q + 1) cs := fun j y e => by have := H (j + 1) y (by simpa using e); rwa [show q + (j + 1) = q + 1 + j by omega] at this
    obtain ⟨us, hl, ha, hr⟩ := At.values H'
    refine ⟨u :: us, by simp [hl], fun j v e => ?_, fun j y v e e' => ?_⟩
    · cases j with
      | zero => simp at e; subst e; exact ⟨h1, h2⟩
      | succ j => rw [show q + (j + 1) = q + 1 + j by omega]; exact ha j v (by simpa using e)
    · cases j with
      | zero => simp at e e'; subst e; subst e'; exact h3
      | succ j => exact hr j y v (by simpa using e) (by simpa using e')

theorem getElem?_part {α : Type} {cs : List α} {o n j : Nat} {x : α} (e : ((cs.drop o).take n)[j]? = some x) : cs[o + j]? = some x ∧ j < n := by
  rw [List.getElem?_take] at e
  split at e
  · rw [List.getElem?_drop] at e; exact ⟨e, ‹_›⟩
  · cases e

theorem load_ok [Base] (T : TbOk P tb) {B : Nat → Nat → Prop} {b q o t : Nat} {cs : List V} (H : At B w h c b q cs) {v : V} (e : partV tb t cs o = some v) :
    ∃ u, (Instr.loadAt t (.pointer (some ⟨b, q + o, none⟩))).run P w = .ok u w ∧ RV B w h c v u := by
  unfold partV at e
  cases ht : tb t with
  | none =>
    have h0 : szOf tb t = 0 := by simp only [szOf, ht]
    have h1 : isAgg tb t = false := by simp only [isAgg, ht]
    simp [h0, h1] at e
  | some i =>
    have hsz := szOf_of ht
    split at e
    · rename_i hle
      have ha := T.run_agg ht w
      split at e
      · rename_i hagg
        injection e with e; subst e
        have H' : At B w h c b (q + o) ((cs.drop o).take (szOf tb t)) := fun j x ex => by
          have := H (o + j) x (getElem?_part ex).1
          rwa [show q + (o + j) = q + o + j by omega] at this
        obtain ⟨us, hl, hc, hr⟩ := At.values H'
        have hlen : us.length = i.sz := by rw [hl, hsz]; simp; omega
        have hrun := run_loadCells_list (P := P) w ⟨b, q + o, none⟩ us (fun j u eu => by rw [addr_add]; exact (hc j u eu).1)
        refine ⟨.agg us.toArray, ?_, .agg (by simp [hl]) (fun x hx => ?_) (fun j u eu => (hc j u (by simpa using eu)).2) (fun j x u ex eu => hr j x u ex (by simpa using eu))⟩
        · rw [hlen] at hrun
          simp [Instr.loadAt, Instr.sureAddr, loadVar, ha, hagg, T.run_size ht, hrun]
        · obtain ⟨j, ej⟩ := List.getElem?_of_mem hx
          exact (H' j x ej).1
      · rename_i hagg
        split at e
        · have hx := H o v e
          obtain ⟨_, u, h1, _, h3⟩ := hx
          exact ⟨u, by simp [Instr.loadAt, Instr.sureAddr, loadVar, ha, hagg, h1], h3⟩
        · cases e
    · cases e

/-- The cells of an element of a row. -/
theorem row_at [Base] {own f : Bool} {sz : Nat} {xs : List (List D)} {v : Value} (r : ObR (Bad X h c) w h c (.row own f sz xs) v) {b q n p : Nat} (hv : v = .slice (some ⟨b, q, none⟩) n p)
    {i : Nat} {x : List D} (hx : xs[i]? = some x) : At (Bad X h c) w h c b (q + i * sz) (x.map V.d) := by
  intro j y ey
  rw [List.getElem?_map] at ey
  cases hd : x[j]? with
  | none => simp [hd] at ey
  | some y' =>
    simp [hd] at ey; subst ey
    refine ⟨rfl, ?_⟩
    have hj : j < x.length := (List.getElem?_eq_some_iff.1 hd).1
    have hi : i < xs.length := (List.getElem?_eq_some_iff.1 hx).1
    have hmem : x ∈ xs := List.mem_of_getElem? hx
    cases own with
    | true =>
      obtain ⟨us, ho, hz, hf, hr⟩ := r
      obtain ⟨u, h1, h2⟩ := hr i x j y' hx hd
      have hq : q = 0 := by
        rcases ho.2 with ⟨e, _⟩ | ⟨g, cap, cur, e, e2, _⟩
        · rw [hv] at e; cases e
        · rw [hv] at e2; injection e2 with e2; injection e2 with e2; injection e2
      subst hv; subst hq
      have := (ho.cell h1).1
      exact ⟨u, by rw [Nat.zero_add]; exact this, h2.one, .d h2⟩
    | false =>
      cases r with
      | l f sz xs A cc u hc hz hf ha hr =>
        injection hv with hA hn hp
        obtain ⟨g, o, hA', hcell⟩ := ha (by intro e; subst e; simp at hi)
        rw [hA] at hA'; injection hA' with hA'; injection hA' with e1 e2; subst e1; subst e2
        have hjs : j < sz := by rw [← hz x hmem]; exact hj
        obtain ⟨k1, k2⟩ := hcell i j hi hjs
        have := hr i x j y' hx hd
        exact ⟨_, by rw [show b = b from rfl, Nat.add_assoc]; exact k1, this.one, .d this⟩

theorem ro_at [Base] {B : Nat → Nat → Prop} {f : Bool} {sz : Nat} {xs : List (List D)} {b q n p : Nat} (r : RO B w (.l f sz xs) (.slice (some ⟨b, q, none⟩) n p))
    {i : Nat} {x : List D} (hx : xs[i]? = some x) : At B w h c b (q + i * sz) (x.map V.d) := by
  intro j y ey
  rw [List.getElem?_map] at ey
  cases hd : x[j]? with
  | none => simp [hd] at ey
  | some y' =>
    simp [hd] at ey; subst ey
    have hj : j < x.length := (List.getElem?_eq_some_iff.1 hd).1
    have hi : i < xs.length := (List.getElem?_eq_some_iff.1 hx).1
    cases r with
    | l f sz xs A cc u hc hz hf ha hr =>
      obtain ⟨g, o, hA', hcell⟩ := ha (by intro e; subst e; simp at hi)
      injection hA' with hA'; injection hA' with e1 e2; subst e1; subst e2
      obtain ⟨k1, k2⟩ := hcell i j hi (by rw [← hz x (List.mem_of_getElem? hx)]; exact hj)
      have := hr i x j y' hx hd
      exact ⟨rfl, _, by rw [Nat.add_assoc]; exact k1, this.one, .d this⟩

theorem loadV_ok [Base] (T : TbOk P tb) (H : HR X w h c) {t : Nat} {a v : V} {av : Value} (ra : RV (Bad X h c) w h c a av) (e : loadV tb h t a = some v) :
    ∃ u, (Instr.loadAt t av).run P w = .ok u w ∧ RV (Bad X h c) w h c v u := by
  cases ra with
  | @ptr s k g o _ hg hv =>
    simp only [loadV] at e
    cases hh : h.get s k g with
    | none => simp [hh] at e
    | some ob =>
      cases ob with
      | row => simp [hh] at e
      | lent => simp [hh] at e
      | lentR => simp [hh] at e
      | box cs =>
        simp only [hh] at e
        obtain ⟨a, h1, h2, rfl⟩ := hv _ hh rfl
        obtain ⟨a', h1', h2', hb⟩ := H.ok s k _ (get_some hh).2
        rw [h1] at h1'; injection h1' with h1'; injection h1' with h1'; subst h1'
        exact load_ok T (fun j x ex => let ⟨p, u, q, _, r, s⟩ := hb j x ex; ⟨p, u, q, r, s⟩) e
  | @ept s k g i o _ hg hv =>
    simp only [loadV] at e
    cases hh : h.get s k g with
    | none => simp [hh] at e
    | some ob =>
      cases ob with
      | box => simp [hh] at e
      | lent => simp [hh] at e
      | lentR => simp [hh] at e
      | row own f sz xs =>
        simp only [hh] at e
        cases hx : xs[i]? with
        | none => simp [hx] at e
        | some x =>
          simp only [hx, Option.bind_some] at e
          obtain ⟨b, q, n, p, h1, rfl⟩ := hv _ hh rfl (List.getElem?_eq_some_iff.1 hx).1
          have := load_ok T (row_at (H.ok s k _ (get_some hh).2) h1 hx) e
          rwa [Nat.add_assoc] at this
  | @rpt f sz xs i o b q n p _ hx hi hv =>
    simp only [loadV] at e
    cases hx' : xs[i]? with
    | none => simp [hx'] at e
    | some x =>
      simp only [hx', Option.bind_some] at e
      subst hv
      have := load_ok (h := h) (c := c) T (ro_at hx hx') e
      rwa [Nat.add_assoc] at this
  | d | nl | agg | own | tup | u => simp [loadV] at e
end Go.Ev
