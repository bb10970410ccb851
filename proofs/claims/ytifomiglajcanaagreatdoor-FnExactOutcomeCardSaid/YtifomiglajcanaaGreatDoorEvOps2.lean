/- The evaluator: EvOps2. -/
import Derived.Test.YtifomiglajcanaaGreatDoorEvOps
set_option linter.unusedSimpArgs false
set_option linter.unusedVariables false
namespace Go.Ev
set_option linter.unusedVariables false
variable {P : Program} {tb : Tb} {X M : Nat → Nat → Prop} {w w' : World} {h h' : Hp} {c c' : Cz} {B : Nat → Nat → Prop}

/-! ### Literals -/
/-- Cells of a literal. -/
def Lit (B : Nat → Nat → Prop) (w : World) (h : Hp) (c : Cz) (cs : List V) (us : List Value) : Prop :=
  cs.length = us.length ∧ (∀ x ∈ cs, x.cellOk = true) ∧ ∀ (j : Nat) x u, cs[j]? = some x → us[j]? = some u → u.oneCell' = true ∧ RV B w h c x u
theorem Lit.zero [Base] {zs : List V} (h1 : zs.all zOk = true) : Lit B w h c zs (zs.map z0) := by
  rw [List.all_eq_true] at h1
  refine ⟨by simp, fun x hx => (RV.zero (B := B) (w := w) (h := h) (c := c) (h1 x hx)).2.1, fun j x u a b => ?_⟩
  rw [List.getElem?_map, a] at b; injection b with b; subst b
  have := RV.zero (B := B) (w := w) (h := h) (c := c) (h1 x (List.mem_of_getElem? a))
  exact ⟨this.2.2, this.1⟩
theorem Lit.over [Base] {cs : List V} {us : List Value} (L : Lit B w h c cs us) {o : Nat} {ys : List V} {vs : List Value} (hl : o + ys.length ≤ cs.length) (L' : Lit B w h c ys vs) : Lit B w h c (over cs o ys) (over us o vs) := by
  have hl2 : o + vs.length ≤ us.length := by rw [← L'.1, ← L.1]; exact hl
  refine ⟨by rw [length_over hl, length_over hl2, L.1], fun x hx => ?_, fun j x u a b => ?_⟩
  · obtain ⟨q, hq⟩ := List.getElem?_of_mem hx
    rcases over_cases hl hq with ⟨_, hq⟩ | ⟨q', rfl, hq'⟩
    · exact L.2.1 x (List.mem_of_getElem? hq)
    · exact L'.2.1 x (List.mem_of_getElem? hq')
  · rcases over_cases hl a with ⟨ho, a⟩ | ⟨q, rfl, a'⟩
    · refine L.2.2 j x u a ?_
      rw [getElem?_over hl2] at b
      split at b
      · exact b
      · rw [if_neg (by rw [← L'.1]; omega)] at b; exact b
    · refine L'.2.2 q x u a' ?_
      have hq := (List.getElem?_eq_some_iff.1 a').1
      rw [getElem?_over hl2, if_neg (by omega), if_pos (by rw [← L'.1]; omega)] at b
      rwa [show o + q - o = q by omega] at b

theorem foldl_over [Base] (off : Nat) : ∀ (vs : List Value) (k : Nat) (cells : Array Value), off + k + vs.length ≤ cells.size →
    ((vs.zipIdx k).foldl (fun (cs : Array Value) (p : Value × Nat) => cs.setIfInBounds (off + p.2) p.1) cells).toList = over cells.toList (off + k) vs
  | [], k, cells, _ => by simp [Ev.over]
  | v :: vs, k, cells, hl => by
    simp only [List.zipIdx_cons, List.foldl_cons]
    simp only [List.length_cons] at hl
    rw [foldl_over off vs (k + 1) _ (by simp; omega)]
    have hlen : cells.toList.length = cells.size := Array.length_toList ..
    apply List.ext_getElem?
    intro j
    rw [getElem?_over (by simp; omega), getElem?_over (by simp; omega)]
    simp only [Array.toList_setIfInBounds, List.getElem?_set, List.length_cons]
    by_cases h1 : j < off + k
    · rw [if_pos (by omega), if_neg (by omega), if_pos h1]
    · by_cases h2 : j = off + k
      · subst h2; simp; omega
      · rw [if_neg h1]
        by_cases h3 : j < off + (k + 1) + vs.length
        · rw [if_neg (by omega), if_pos h3, if_pos (by omega), show j - (off + k) = (j - (off + (k + 1))) + 1 by omega]; simp
        · rw [if_neg (by omega), if_neg h3, if_neg (by omega), if_neg (by omega)]

theorem fill_step [Base] {place : Nat → Option (Nat × Nat)} {cells : Array Value} {j off size : Nat} {v : Value} {rest : List (Nat × Value)} (hp : place j = some (off, size)) (hs : v.cells.size = size) (hl : off + v.cells.size ≤ cells.size) :
    ∃ cells' : Array Value, Instr.fill place cells ((j, v) :: rest) = Instr.fill place cells' rest ∧ cells'.toList = over cells.toList off v.cells.toList := by
  refine ⟨v.cells.zipIdx.foldl (fun cs (c, j) => cs.setIfInBounds (off + j) c) cells, ?_, ?_⟩
  · simp only [Instr.fill, hp]
    rw [if_neg (by simp [hs]; omega)]
  · rw [← Array.foldl_toList, Array.toList_zipIdx]
    exact foldl_over off v.cells.toList 0 cells (by simpa using hl)

theorem fillV_ok [Base] {fs : List (Nat × Nat)} {ρ : Operand → V} {ρc : Operand → Value} (hρ : ∀ x, RV B w h c (ρ x) (ρc x)) {place : Nat → Option (Nat × Nat)} (hp : ∀ j o ft, fs[j]? = some (o, ft) → place j = some (o, szOf tb ft)) :
    ∀ {parts : List (Nat × Operand)} {cs cs' : List V} {cells : Array Value}, Lit B w h c cs cells.toList → fillV tb fs ρ parts cs = some cs' →
      ∃ cells', Instr.fill place cells (parts.map fun p => (p.1, ρc p.2)) = some cells' ∧ Lit B w h c cs' cells'.toList
  | [], cs, cs', cells, L, e => by simp [fillV] at e; subst e; exact ⟨cells, rfl, L⟩
  | (j, x) :: parts, cs, cs', cells, L, e => by
    simp only [fillV] at e
    cases hf : fs[j]? with
    | none => simp [hf] at e
    | some p =>
      obtain ⟨o, ft⟩ := p
      simp only [hf] at e
      split at e
      case isFalse => cases e
      rename_i hh
      obtain ⟨h1, h2, h3⟩ := hh
      obtain ⟨k1, k2, k3⟩ := cells_ok (hρ x) (elSz tb ft) h3
      have L' : Lit B w h c ((ρ x).fix (elSz tb ft)).cells (ρc x).cells.toList := ⟨by simpa using k1, List.all_eq_true.1 h3, fun j y z a b => ⟨k2 z (List.mem_of_getElem? b), k3 j y z a b⟩⟩
      have hcl : cells.size = cs.length := by rw [L.1, Array.length_toList]
      obtain ⟨cells1, e1, e2⟩ := fill_step (place := place) (cells := cells) (rest := parts.map fun p => (p.1, ρc p.2)) (hp j o ft hf) (v := ρc x) (by omega) (by omega)
      obtain ⟨cells', e3, L3⟩ := fillV_ok hρ hp (by rw [e2]; exact L.over h2 L') e
      exact ⟨cells', by simpa [e1] using e3, L3⟩

theorem length_flatten {α : Type} {sz : Nat} : ∀ {rows : List (List α)}, (∀ r ∈ rows, r.length = sz) → rows.flatten.length = rows.length * sz
  | [], _ => by simp
  | r :: rows, hr => by
    simp only [List.flatten_cons, List.length_append, List.length_cons, length_flatten (rows := rows) fun r' h' => hr r' (by simp [h']), hr r (by simp), Nat.add_mul, Nat.one_mul]; omega
theorem getElem?_flatten' {α : Type} {sz : Nat} : ∀ {rows : List (List α)} {i j : Nat} {r : List α} {x : α}, (∀ r ∈ rows, r.length = sz) → rows[i]? = some r → r[j]? = some x → rows.flatten[i * sz + j]? = some x
  | [], i, j, r, x, _, e, _ => by simp at e
  | r0 :: rows, 0, j, r, x, hr, e, e' => by
    simp at e; subst e
    rw [List.flatten_cons, Nat.zero_mul, Nat.zero_add, List.getElem?_append_left (List.getElem?_eq_some_iff.1 e').1]; exact e'
  | r0 :: rows, i + 1, j, r, x, hr, e, e' => by
    have h0 := hr r0 (by simp)
    have hm : (i + 1) * sz = i * sz + sz := by rw [Nat.add_mul, Nat.one_mul]
    rw [List.flatten_cons, List.getElem?_append_right (by omega), show (i + 1) * sz + j - r0.length = i * sz + j by omega]
    exact getElem?_flatten' (fun r' h' => hr r' (by simp [h'])) (by simpa using e) e'
theorem flatten_setT {α : Type} {sz : Nat} : ∀ {rows : List (List α)} {i : Nat} {ys : List α}, (∀ r ∈ rows, r.length = sz) → i < rows.length → ys.length = sz → (rows.set i ys).flatten = rows.flatten.take (i * sz) ++ ys ++ rows.flatten.drop (i * sz + ys.length)
  | [], i, ys, _, hi, _ => by simp at hi
  | r0 :: rows, 0, ys, hr, _, hl => by
    have h0 := hr r0 (by simp)
    simp [hl, ← h0]
  | r0 :: rows, i + 1, ys, hr, hi, hl => by
    have h0 := hr r0 (by simp)
    have hm : (i + 1) * sz = r0.length + i * sz := by rw [Nat.add_mul, Nat.one_mul, h0]; omega
    have ih := flatten_setT (rows := rows) (i := i) (fun r' h' => hr r' (by simp [h'])) (by simpa using hi) hl
    simp only [List.set_cons_succ, List.flatten_cons, ih, hm]
    rw [List.take_length_add_append, Nat.add_assoc, List.drop_length_add_append]
    simp [List.append_assoc]

theorem flatten_set [Base] {α : Type} {sz : Nat} {rows : List (List α)} {i : Nat} {ys : List α} (hr : ∀ r ∈ rows, r.length = sz) (hi : i < rows.length) (hl : ys.length = sz) : (rows.set i ys).flatten = over rows.flatten (i * sz) ys := by
  rw [over_eq _ _ _ (by
    rw [length_flatten hr, hl, show i * sz + sz = (i + 1) * sz by rw [Nat.add_mul, Nat.one_mul]]
    exact Nat.mul_le_mul_right sz hi)]
  exact flatten_setT hr hi hl

theorem fillS_ok [Base] {e : Nat} {ρ : Operand → V} {ρc : Operand → Value} (hρ : ∀ x, RV B w h c (ρ x) (ρc x)) :
    ∀ {parts : List (Nat × Operand)} {cs cs' : List (List V)} {cells : Array Value}, Lit B w h c cs.flatten cells.toList → (∀ r ∈ cs, r.length = szOf tb e) → fillS tb e ρ parts cs = some cs' →
      ∃ cells', Instr.fill (fun i => some (i * szOf tb e, szOf tb e)) cells (parts.map fun p => (p.1, ρc p.2)) = some cells' ∧ Lit B w h c cs'.flatten cells'.toList ∧ (∀ r ∈ cs', r.length = szOf tb e) ∧ cs'.length = cs.length
  | [], cs, cs', cells, L, hr, e => by simp [fillS] at e; subst e; exact ⟨cells, rfl, L, hr, rfl⟩
  | (j, x) :: parts, cs, cs', cells, L, hr, ee => by
    simp only [fillS] at ee
    split at ee
    case isFalse => cases ee
    rename_i hh
    obtain ⟨h1, h2, h3⟩ := hh
    obtain ⟨k1, k2, k3⟩ := cells_ok (hρ x) (elSz tb e) h3
    have L' : Lit B w h c ((ρ x).fix (elSz tb e)).cells (ρc x).cells.toList := ⟨by simpa using k1, List.all_eq_true.1 h3, fun j y z a b => ⟨k2 z (List.mem_of_getElem? b), k3 j y z a b⟩⟩
    have hcl : cells.size = cs.flatten.length := by rw [L.1, Array.length_toList]
    have hfl := length_flatten hr
    have hidx : j * szOf tb e + szOf tb e ≤ cs.length * szOf tb e := by have := Nat.mul_le_mul_right (szOf tb e) (show j + 1 ≤ cs.length from h2); rwa [Nat.add_mul, Nat.one_mul] at this
    obtain ⟨cells1, e1, e2⟩ := fill_step (place := fun i => some (i * szOf tb e, szOf tb e)) (cells := cells) (rest := parts.map fun p => (p.1, ρc p.2)) (j := j) rfl (v := ρc x) (by omega) (by omega)
    have hset := flatten_set hr h2 h1
    have hr' : ∀ r ∈ cs.set j ((ρ x).fix (elSz tb e)).cells, r.length = szOf tb e := fun r hm => by
      rcases List.mem_or_eq_of_mem_set hm with hm | rfl
      · exact hr r hm
      · exact h1
    obtain ⟨cells', e3, L3, hr3, hl3⟩ := fillS_ok hρ (cells := cells1) (by rw [e2, hset]; exact L.over (by omega) L') hr' ee
    exact ⟨cells', by simpa [e1] using e3, L3, hr3, by rw [hl3, List.length_set]⟩

theorem toDss_ok [Base] {sz : Nat} : ∀ {rows : List (List V)} {us : List Value} {h h' : Hp} {xs : List (List D)}, HR X w h c → (∀ r ∈ rows, r.length = sz) → (∀ (j : Nat) x u, rows.flatten[j]? = some x → us[j]? = some u → RV (Bad X h c) w h c x u) → rows.flatten.length = us.length →
    toDss rows h = some (xs, h') →
    Mv X (fun _ _ => False) w h c w h' c ∧ xs.length = rows.length ∧ (∀ x ∈ xs, x.length = sz) ∧ ∀ (i : Nat) x (j : Nat) y, xs[i]? = some x → x[j]? = some y → ∃ u, us[i * sz + j]? = some u ∧ RO (Bad X h' c) w y u
  | [], us, h, h', xs, H, _, _, _, e => by
    simp [toDss] at e; obtain ⟨rfl, rfl⟩ := e
    exact ⟨Mv.refl H _ fun _ _ => _root_.id, rfl, by simp, by simp⟩
  | r :: rows, us, h, h', xs, H, hs, hr, hl, e => by
    simp only [toDss, Option.bind_eq_some_iff, Option.map_eq_some_iff, Prod.exists] at e
    obtain ⟨x, h1, e1, xs', h2, e2, e3⟩ := e
    simp at e3; obtain ⟨rfl, rfl⟩ := e3
    have hrl := hs r (by simp)
    simp only [List.flatten_cons, List.length_append] at hl hr
    obtain ⟨m1, hl1, r1⟩ := toDs_ok (us := us.take sz) H (fun j y z a b => hr j y z (by rw [List.getElem?_append_left (List.getElem?_eq_some_iff.1 a).1]; exact a) (by rw [List.getElem?_take] at b; split at b; exact b; cases b)) (by simp; omega) e1
    obtain ⟨m2, hl2, hz2, r2⟩ := toDss_ok (us := us.drop sz) m1.hr (fun r' h' => hs r' (by simp [h'])) (fun j y z a b => m1.rv (hr (sz + j) y z (by rw [List.getElem?_append_right (by omega), show sz + j - r.length = j by omega]; exact a) (by rw [List.getElem?_drop] at b; exact b))) (by rw [List.length_drop]; omega) e2
    have hxl : x.length = sz := by rw [hl1]; simp; omega
    refine ⟨m1.trans m2 (fun _ _ _ x => x.elim _root_.id _root_.id) (fun _ _ _ x => x.elim), by simp [hl2], fun y hy => ?_, fun i y j z a b => ?_⟩
    · rcases List.mem_cons.1 hy with rfl | hy
      · exact hxl
      · exact hz2 y hy
    · cases i with
      | zero =>
        simp at a; subst a
        have hj := (List.getElem?_eq_some_iff.1 b).1
        obtain ⟨u, hu⟩ : ∃ u, us[j]? = some u := ⟨_, List.getElem?_eq_getElem (by omega)⟩
        exact ⟨u, by simpa using hu, m2.ro (r1 j z u b (by rw [List.getElem?_take, if_pos (by omega)]; exact hu))⟩
      | succ i =>
        obtain ⟨u, hu, hro⟩ := r2 i y j z (by simpa using a) b
        rw [List.getElem?_drop] at hu
        exact ⟨u, by rw [Nat.add_mul, Nat.one_mul, show i * sz + sz + j = sz + (i * sz + j) by omega]; exact hu, hro⟩
end Go.Ev
