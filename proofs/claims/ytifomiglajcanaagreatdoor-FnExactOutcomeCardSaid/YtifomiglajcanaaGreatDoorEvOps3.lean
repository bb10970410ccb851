/- The evaluator: EvOps3. -/
import Derived.Test.YtifomiglajcanaaGreatDoorEvOps2
set_option linter.unusedSimpArgs false
set_option linter.unusedVariables false
namespace Go.Ev
set_option linter.unusedVariables false
variable {P : Program} {tb : Tb} {X M : Nat → Nat → Prop} {w w' : World} {h h' : Hp} {c c' : Cz} {B : Nat → Nat → Prop}

theorem places_ok {fa : List Field} {fs : List (Nat × Nat)} (h1 : fa.map (fun f => (f.offset, f.type)) = fs) (h2 : ∀ p ∈ fs, ∃ qi, P.info? p.2 = some qi ∧ qi.size = szOf tb p.2) (w : World) :
    (fa.mapM fun f => Prod.mk f.offset <$> sizeOf f.type).run P w = .ok (fs.map fun p => (p.1, szOf tb p.2)) w := by
  subst h1
  induction fa with
  | nil => simp
  | cons f fa ih =>
    obtain ⟨qi, k1, k2⟩ := h2 (f.offset, f.type) (by simp)
    have := ih fun p hp => h2 p (by simp [List.mem_map] at hp ⊢; exact .inr hp)
    have hs : (sizeOf f.type).run P w = .ok (szOf tb f.type) w := by simp [sizeOf, typeInfo, k1]; exact k2
    simp only [List.mapM_cons, Sem.run_bind, Sem.run_map, hs, Result.andThen_ok, this, Sem.run_pure, List.map_cons]

theorem RV.frz1 {B : Nat → Nat → Prop} {w : World} {h : Hp} {c : Cz} {x : V} {u : Value} (r : RV B w h c x u) : RV B w h c x.frzN u := by
  cases x with
  | nl f sz => cases r; exact .d (.l _ _ [] none 0 (fun _ _ => undef) (by simp) (by simp) (by simp) (fun h => absurd rfl h) (by simp))
  | _ => exact r
theorem frzN_cellOk {x : V} (h : x.cellOk = true) : x.frzN.cellOk = true := by
  cases x <;> first | exact h | rfl
theorem RV.frzN {B : Nat → Nat → Prop} {w : World} {h : Hp} {c : Cz} {cs : List V} {u : Value} (r : RV B w h c (.agg cs) u) : RV B w h c (.agg (cs.map V.frzN)) u := by
  cases r with
  | @agg _ us hl ho h1 hr =>
    refine .agg (by rw [List.length_map]; exact hl) (fun x hx => ?_) h1 (fun j x u hx hu => ?_)
    · obtain ⟨y, hy, rfl⟩ := List.mem_map.1 hx; exact frzN_cellOk (ho y hy)
    · rw [List.getElem?_map] at hx
      cases hy : cs[j]? with
      | none => rw [hy] at hx; cases hx
      | some y => rw [hy] at hx; cases hx; exact (hr j y u hy hu).frz1
theorem build_ok [Base] (T : TbOk P tb) (H : HR X w h c) {t a b : Nat} {fs : List (Nat × Nat)} {z : List V} (ht : tb t = some ⟨a, b, .st fs, z⟩) {ρ : Operand → V} {ρc : Operand → Value} (hρ : ∀ x, RV (Bad X h c) w h c (ρ x) (ρc x))
    {parts : Array (Nat × Operand)} {cs : List V} (e : fillV tb fs ρ parts.toList z = some cs) :
    ∃ u, (Instr.build t (parts.map fun p => (p.1, ρc p.2))).run P w = .ok u w ∧ RV (Bad X h c) w h c (.agg cs) u := by
  obtain ⟨z', h1, h2, h3, h4⟩ := T.zero ht
  obtain ⟨fa, hu, hfs, hsz⟩ := T.struct ht
  have L : Lit (Bad X h c) w h c z z'.cells.toList := by rw [h2]; exact Lit.zero h4
  obtain ⟨cells', e1, L'⟩ := fillV_ok (place := ((fs.map fun p => (p.1, szOf tb p.2)).toArray[·]?)) hρ (fun j o ft hj => by simp [hj]) L e
  have hpl := places_ok (P := P) (tb := tb) hfs hsz w
  refine ⟨.agg cells', ?_, .agg (by simpa using L'.1) L'.2.1 (fun j u hu => ?_) fun j x u a b => (L'.2.2 j x u a (by simpa using b)).2⟩
  · have e1' : Instr.fill (fun x => (fs.map fun p => (p.1, szOf tb p.2)).toArray[x]?) z'.cells ((parts.map fun p => (p.1, ρc p.2)).toList) = some cells' := by simpa using e1
    have e2 : Instr.fill (fun x => Option.map (fun p => (p.1, szOf tb p.2)) fs[x]?) z'.cells (List.map (fun p => (p.1, ρc p.2)) parts.toList) = some cells' := by simpa using e1
    simp [Instr.build, run_underlying hu, h1, Array.mapM_eq_mapM_toList, hpl, e2]
  · have hu' : cells'.toList[j]? = some u := by simpa using hu
    obtain ⟨x, hx⟩ : ∃ x, cs[j]? = some x := ⟨_, List.getElem?_eq_getElem (by rw [L'.1]; exact (List.getElem?_eq_some_iff.1 hu').1)⟩
    exact (L'.2.2 j x u hx hu').1

theorem repl_zero [Base] (z : List Value) : ∀ n, ((Array.range (n * z.length)).map fun i => z.toArray[i % z.length]!).toList = (List.replicate n z).flatten := by
  intro n
  apply List.ext_getElem?
  intro k
  by_cases hz : z.length = 0
  · obtain rfl := List.eq_nil_of_length_eq_zero hz; simp
  · have hflen : (List.replicate n z).flatten.length = n * z.length := by rw [length_flatten (sz := z.length) (by simp)]; simp
    by_cases hk : k < n * z.length
    · have hd : k / z.length < n := by rw [Nat.div_lt_iff_lt_mul (by omega)]; exact hk
      have hm : k % z.length < z.length := Nat.mod_lt _ (by omega)
      have e1 : k = k / z.length * z.length + k % z.length := by rw [Nat.mul_comm]; exact (Nat.div_add_mod ..).symm
      have h2 := getElem?_flatten' (sz := z.length) (rows := List.replicate n z) (i := k / z.length) (j := k % z.length) (r := z) (x := z[k % z.length]) (by simp) (by simp [hd]) (List.getElem?_eq_getElem hm)
      rw [← e1] at h2
      rw [h2]
      simp [hk, hm]
    · rw [List.getElem?_eq_none (by simp; omega), List.getElem?_eq_none (by omega)]

theorem buildSlice_ok [Base] (T : TbOk P tb) (H : HR X w h c) {t a b e len d : Nat} {z : List V} (ht : tb t = some ⟨a, b, .sl e, z⟩) {ie : TI} (he : tb e = some ie) (hs0 : 0 < ie.sz) (hle : len * ie.sz ≤ 16777216)
    {ρ : Operand → V} {ρc : Operand → Value} (hρ : ∀ x, RV (Bad X h c) w h c (ρ x) (ρc x)) {parts : Array (Nat × Operand)} {rows : List (List V)} (ee : fillS tb e ρ parts.toList (List.replicate len ie.z) = some rows) {xs : List (List D)} {h1 : Hp} (e2 : toDss rows h = some (xs, h1)) :
    ∃ u w' c', (Instr.buildSlice t len (parts.map fun p => (p.1, ρc p.2))).run P w = .ok u w' ∧ Mv X (Mut h c) w h c w' (h1.new d 0 (.row true (ie.fl && xs.all fun x => x.all D.isP) ie.sz xs)) c' ∧
      RV (Bad X (h1.new d 0 (.row true (ie.fl && xs.all fun x => x.all D.isP) ie.sz xs)) c') w' (h1.new d 0 (.row true (ie.fl && xs.all fun x => x.all D.isP) ie.sz xs)) c' (.own d 0 ((h1 d 0).1 + 1)) u := by
  obtain ⟨z', k1, k2, k3, k4⟩ := T.zero he
  have hsz := szOf_of he
  have hzl : z'.cells.toList.length = ie.sz := by rw [k2, List.length_map, k3]
  have hzs : z'.cells.size = ie.sz := by rw [← hzl, Array.length_toList]
  have hzero : ((Array.range (len * ie.sz)).map fun i => z'.cells[i % z'.cells.size]!).toList = (List.replicate len z'.cells.toList).flatten := by
    have := repl_zero z'.cells.toList len
    rw [hzl] at this; rw [← this, hzs]
  have L : Lit (Bad X h c) w h c (List.replicate len ie.z).flatten ((Array.range (len * ie.sz)).map fun i => z'.cells[i % z'.cells.size]!).toList := by
    rw [hzero, k2]
    have : ∀ n, Lit (Bad X h c) w h c (List.replicate n ie.z).flatten (List.replicate n (ie.z.map z0)).flatten := by
      intro n
      have h0 := Lit.zero (B := Bad X h c) (w := w) (h := h) (c := c) (zs := (List.replicate n ie.z).flatten) (by
        rw [List.all_eq_true] at k4 ⊢
        intro x hx
        simp only [List.mem_flatten, List.mem_replicate] at hx
        obtain ⟨l, ⟨_, rfl⟩, hx⟩ := hx
        exact k4 x hx)
      have : List.map z0 (List.replicate n ie.z).flatten = (List.replicate n (ie.z.map z0)).flatten := by
        rw [List.map_flatten, List.map_replicate]
      rwa [this] at h0
    exact this len
  have hrl : ∀ r ∈ List.replicate len ie.z, r.length = szOf tb e := fun r hr => by rw [(List.mem_replicate.1 hr).2, hsz, k3]
  obtain ⟨cells', e3, L', hr', hl'⟩ := fillS_ok hρ L hrl ee
  rw [List.length_replicate] at hl'
  obtain ⟨m1, hxl, hxz, hxr⟩ := toDss_ok (us := cells'.toList) H hr' (fun j x u a b => (L'.2.2 j x u a b).2) L'.1 e2
  rw [hsz] at hxz hxr
  have hcs : cells'.size = len * ie.sz := by
    have := L'.1
    rw [length_flatten hr', hl', hsz, Array.length_toList] at this
    exact this.symm
  have hlen : xs.length = len := by rw [hxl, hl']
  have hlen2 : len ≤ 16777216 := Nat.le_trans (Nat.le_mul_of_pos_right _ (by omega)) hle
  have m2 := row_new m1.hr d 0 e (f := ie.fl && xs.all fun x => x.all D.isP) (sz := ie.sz) (xs := xs) (cur := cells') xs.length (Nat.le_refl _) (by unfold maxLen; omega) (by rw [hcs, hlen]) hxz (fun hf => List.all_eq_true.1 (Bool.and_eq_true _ _ ▸ hf : _ ∧ _).2) (fun i x j y a b => by
    obtain ⟨u, hu, hro⟩ := hxr i x j y a b
    exact ⟨u, by simpa using hu, hro⟩) (Fr.refl _ w) rfl
  refine ⟨.slice (some ⟨w.heap.size, 0, none⟩) len len, _, _, ?_, m1.andThen m2, ?_⟩
  · have e3' : Instr.fill (fun i => some (i * ie.sz, ie.sz)) ((Array.range (len * ie.sz)).map fun i => z'.cells[i % z'.cells.size]!) ((parts.map fun p => (p.1, ρc p.2)).toList) = some cells' := by rw [hsz] at e3; simpa using e3
    have hng : ¬ len * ie.sz > 2 ^ 24 := by omega
    by_cases hl0 : len * ie.sz = 0
    · have hl00 : len = 0 := by rcases Nat.mul_eq_zero.1 hl0 with h | h; exact h; omega
      subst hl00
      simp only [Nat.zero_mul] at e3'
      simp at e3'
      rw [show Array.range 0 = #[] from rfl, Array.map_empty] at e3'
      simp [Instr.buildSlice, run_underlying (T.slice ht), T.run_size he]
      rw [show Array.range 0 = #[] from rfl, Array.map_empty, e3']
      rfl
    · simp only [Instr.buildSlice, Sem.run_bind, run_underlying (T.slice ht), Result.andThen_ok, T.run_size he, hng, hl0, if_false, k1, Sem.run_pure, e3']
      rfl
  · rw [← hlen]; exact new_own rfl
end Go.Ev
