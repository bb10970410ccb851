/- The evaluator: EvOps4. -/
import Derived.Test.YtifomiglajcanaaGreatDoorEvOps3
set_option linter.unusedSimpArgs false
set_option linter.unusedVariables false
namespace Go.Ev
set_option linter.unusedVariables false
variable {P : Program} {tb : Tb} {X M : Nat → Nat → Prop} {w w' : World} {h h' : Hp} {c c' : Cz} {B : Nat → Nat → Prop}

theorem room_run (t ty e e' : TypeId) (i : TypeInfo) (ht : P.underlying t = some (.slice e)) (hi : P.info? e = some i)
    (g sLen sCap : Nat) (cur : Array Value) (hg : w.heap[g]? = some (.cells cur e' (0, 0)))
    (a : Addr) (m c : Nat) (news : List Value) (hl : news.length = m * i.size) (hnews : ∀ j u, news[j]? = some u → w.cell? (a.add j) = some u) (h1 : ∀ u ∈ news, u.oneCell' = true)
    (hroom : sLen + m ≤ sCap) (hfit : sLen * i.size + news.length ≤ cur.size) :
    (Builtin.append_ #[t, t] ty #[.slice (some ⟨g, 0, none⟩) sLen sCap, .slice (some a) m c]).run P w =
      .ok (.slice (some ⟨g, 0, none⟩) (sLen + m) sCap) (w.setRow g (cur.toList.take (sLen * i.size) ++ news ++ cur.toList.drop (sLen * i.size + news.length)).toArray) := by
  have hf := run_firstCells_some (P := P) w i.size m a m c news hl hnews
  have hst := run_storeCells_at (P := P) g (sLen * i.size) e' news 0 cur w hg (by simpa using hfit) h1
  simp only [Nat.add_zero] at hst
  simp [Builtin.append_, run_underlying ht, sizeOf, typeInfo, hi, Builtin.lenOf, hroom, hf, Addr.add_lit, hst]

/-- append: what it hands back owns the old elements and the new ones; of old memory at most the row's own block has been written. -/
theorem append_run [Base] (t ty e : TypeId) (i : TypeInfo) (z : Value) (ht : P.underlying t = some (.slice e)) (hi : P.info? e = some i) (hz : i.zero = some z) (hzs : z.cells.size = i.size) (hsz : 0 < i.size) (hby : 0 < i.bytes)
    {v : Value} {n : Nat} {us : List Value} (ho : OwnRow w v i.size n us) (A : Option Addr) (m p : Nat) (news : List Value) (hl : news.length = m * i.size)
    (hA : m ≠ 0 → ∃ a, A = some a ∧ ∀ j u, news[j]? = some u → w.cell? (a.add j) = some u) (h1 : ∀ u ∈ news, u.oneCell' = true) (hb : (n + m) * i.bytes ≤ 140737488355328) :
    ∃ v' w', (Builtin.append_ #[t, t] ty #[v, .slice A m p]).run P w = .ok v' w' ∧ OwnRow w' v' i.size (n + m) (us ++ news) ∧ Fr (fun g _ => ∃ a q r, v = .slice (some a) q r ∧ a.block = g) w w' ∧
      ∀ a q r, v' = .slice (some a) q r → (∃ a' q r, v = .slice (some a') q r ∧ a'.block = a.block) ∨ w.heap.size ≤ a.block := by
  have hnm : n + m ≤ 140737488355328 := Nat.le_trans (Nat.le_mul_of_pos_right _ hby) hb
  have h63 : n + m ≤ maxLen := by unfold maxLen; omega
  have hlen : (us ++ news).length = (n + m) * i.size := by rw [List.length_append, ho.1, hl, Nat.add_mul]
  have grown : ∀ (old : Nat), old < n + m → OwnRow (w.drew.alloc (.cells (us.toArray ++ news.toArray ++ Builtin.zeroCells z.cells (grownCap w (n + m) old e - (n + m))) e)) (.slice (some ⟨w.heap.size, 0, none⟩) (n + m) (grownCap w (n + m) old e)) i.size (n + m) (us ++ news) := by
    intro old hold
    have hge := grownCap_ge w (n + m) old e
    refine ⟨hlen, .inr ⟨w.heap.size, _, _, e, rfl, heap_alloc_new w.drew _, hge, grownCap_le_maxLen w (n + m) old e h63, ?_, ?_⟩⟩
    · simp only [Array.size_append, List.size_toArray, size_zeroCells, hzs, ho.1, hl, ← Nat.add_mul]
      congr 1; omega
    · simp only [Array.toList_append, List.append_assoc]
      rw [← List.append_assoc, ← hlen]
      exact List.take_left
  have frN : ∀ (o : Obj), Fr (fun g _ => ∃ a q r, v = .slice (some a) q r ∧ a.block = g) w (w.drew.alloc o) := fun o => (Fr.drew _ w).trans (Fr.alloc (fun g _ => ∃ a q r, v = .slice (some a) q r ∧ a.block = g) w.drew o) (fun _ _ _ x => x) (fun _ _ _ x => x)
  rcases Nat.eq_zero_or_pos m with rfl | hm
  · obtain rfl : news = [] := List.eq_nil_of_length_eq_zero (by simpa using hl)
    refine ⟨v, w, ?_, by simpa using ho, Fr.refl _ _, fun a q r e => .inl ⟨a, q, r, e, rfl⟩⟩
    rcases ho.2 with ⟨rfl, rfl⟩ | ⟨g, cap, cur, e', rfl, _, hnc, _⟩
    · cases A <;> simp [Builtin.append_, run_underlying ht, sizeOf, typeInfo, hi, Builtin.lenOf, Builtin.firstCells, loadCells, loadCellsFrom]
    · cases A <;> simp [Builtin.append_, run_underlying ht, sizeOf, typeInfo, hi, Builtin.lenOf, Builtin.firstCells, hnc, storeCells, loadCells, loadCellsFrom]
  · obtain ⟨a, rfl, hnews⟩ := hA (by omega)
    rcases ho.2 with ⟨rfl, rfl⟩ | ⟨g, cap, cur, e', rfl, hg, hnc, hcm, hcs, htake⟩
    · obtain rfl : us = [] := List.eq_nil_of_length_eq_zero (by simpa using ho.1)
      have hr := run_append_nil (P := P) w t ty e i z ht hi hz a m p news hl hnews hm (by omega) (by simp only [Nat.zero_add] at hb; omega)
      have hgr := grown 0 (by omega)
      simp only [Nat.zero_add, List.nil_append, Array.empty_append] at hgr ⊢
      exact ⟨_, _, hr, hgr, frN _, fun a q r e => .inr (by injection e with e; injection e with e; rw [← e]; exact Nat.le_refl _)⟩
    · by_cases hroom : n + m ≤ cap
      · have hfit : n * i.size + news.length ≤ cur.size := by rw [hl, hcs, ← Nat.add_mul]; exact Nat.mul_le_mul_right _ hroom
        have hr := room_run (P := P) (w := w) t ty e e' i ht hi g n cap cur hg a m p news hl hnews h1 hroom hfit
        refine ⟨_, _, hr, ⟨hlen, .inr ⟨g, cap, _, e', rfl, setRow_heap w g cur _ e' _ hg, hroom, hcm, ?_, ?_⟩⟩, (Fr.setRow hg _).mono fun g' _ _ e => ⟨_, _, _, rfl, e⟩, fun a q r e => .inl ⟨_, _, _, rfl, by injection e with e; injection e with e; rw [← e]⟩⟩
        · simp only [List.size_toArray, List.length_append, List.length_take, List.length_drop, Array.length_toList]; omega
        · rw [htake, ← hlen]; exact List.take_left
      · have hr := run_append_grow (P := P) w t ty e i z ht hi hz ⟨g, 0, none⟩ n cap us ho.1 (fun j u hu => by rw [addr_add, Nat.zero_add]; exact (ho.cell hu).1) a m p news hl hnews (by omega) (by omega) (growslice_fits (by omega) hb)
        exact ⟨_, _, hr, grown cap (by omega), frN _, fun a q r e => .inr (by injection e with e; injection e with e; rw [← e]; exact Nat.le_refl _)⟩

theorem RV.fix {x : V} {u : Value} (r : RV B w h c x u) (n : Bool × Nat) : RV B w h c (x.fix n) u := by
  cases r with
  | nl => exact .nl
  | d hx => exact .d hx
  | agg hl ho h1 hr => exact .agg hl ho h1 hr
  | own hg hv h1 => exact .own hg hv h1
  | ptr hg hv => exact .ptr hg hv
  | ept hg hv => exact .ept hg hv
  | rpt hx hi hv => exact .rpt hx hi hv
  | tup hl hr => exact .tup hl hr
  | u => exact .u

/-- The cells of a list of elements. -/
theorem flat_cells [Base] {xs : List (List D)} {sz : Nat} (hz : ∀ y ∈ xs, y.length = sz) {R : D → Value → Prop} {f : Nat → Option Value} (hr : ∀ (i : Nat) y (j : Nat) z, xs[i]? = some y → y[j]? = some z → ∃ v, f (i * sz + j) = some v ∧ R z v) :
    ∃ us : List Value, us.length = xs.length * sz ∧ (∀ j u, us[j]? = some u → f j = some u ∧ ∃ z, R z u) ∧ ∀ (i : Nat) y (j : Nat) z, xs[i]? = some y → y[j]? = some z → ∃ v, us[i * sz + j]? = some v ∧ R z v := by
  have key : ∀ q, q < xs.length * sz → ∃ y z, xs[q / sz]? = some y ∧ y[q % sz]? = some z ∧ q = q / sz * sz + q % sz := by
    intro q hq
    have h0 : 0 < sz := by rcases Nat.eq_zero_or_pos sz with rfl | h; simp at hq; exact h
    have hd : q / sz < xs.length := by rw [Nat.div_lt_iff_lt_mul h0]; exact hq
    have hy : xs[q / sz]? = some xs[q / sz] := List.getElem?_eq_getElem hd
    have hl := hz _ (List.mem_of_getElem? hy)
    have hm : q % sz < xs[q / sz].length := by rw [hl]; exact Nat.mod_lt _ h0
    exact ⟨_, _, hy, List.getElem?_eq_getElem hm, by rw [Nat.mul_comm]; exact (Nat.div_add_mod ..).symm⟩
  refine ⟨(List.range (xs.length * sz)).map fun q => (f q).getD undef, by simp, fun j u hu => ?_, fun i y j z a b => ?_⟩
  · rw [List.getElem?_map] at hu
    have hj : j < xs.length * sz := by
      rcases Nat.lt_or_ge j (xs.length * sz) with h | h
      · exact h
      · rw [List.getElem?_eq_none (by simpa using h)] at hu; cases hu
    obtain ⟨y, z, k1, k2, k3⟩ := key j hj
    obtain ⟨v, k4, k5⟩ := hr _ y _ z k1 k2
    rw [← k3] at k4
    rw [List.getElem?_range hj] at hu
    simp [k4] at hu; subst hu
    exact ⟨k4, z, k5⟩
  · obtain ⟨v, k4, k5⟩ := hr i y j z a b
    have hi := (List.getElem?_eq_some_iff.1 a).1
    have hj : j < sz := by rw [← hz y (List.mem_of_getElem? a)]; exact (List.getElem?_eq_some_iff.1 b).1
    exact ⟨v, by rw [List.getElem?_map, List.getElem?_range (idx_lt hi hj)]; simp [k4], k5⟩

theorem own_sound [Base] {s k : Nat} {f : Bool} {sz : Nat} {xs : List (List D)} {v : Value} {d q : Nat} {g : Nat} (hg : g = (h d q).1 + 1) (h1 : v.oneCell' = true) {ob : Ob} : RV B w (h.new d q ob) (c.put d q v) (.own d q g) v := hg ▸ new_own h1

theorem renC_ok [Base] (H : HR X w h c) {cd : Nat → Nat → Bool} {s k : Nat} {v : V} {u : Value} (r : RV (Bad X h c) w h c v u) : ∃ c', Mv X (Mut h c) w h c w (renC cd s k v h).2 c' ∧ RV (Bad X (renC cd s k v h).2 c') w (renC cd s k v h).2 c' (renC cd s k v h).1 u := by
  have same : ∃ c', Mv X (Mut h c) w h c w h c' ∧ RV (Bad X h c') w h c' v u := ⟨c, Mv.id H, r⟩
  unfold renC
  split
  · rename_i s' k' g
    cases hq : cd s' k' with
    | false => exact same
    | true =>
      simp only [cond_true]
      split
      · rename_i f sz xs hh
        cases r with
        | own hg hv h1 =>
          have hrow := H.ok s' k' _ (get_some hh).2
          have hcv := hv _ hh rfl
          refine ⟨c.put s k u, (Mv.swap H (get_some hh).2 (Fr.refl _ _) s k (.row true f sz xs) u (fun g o x => .inl (hcv ▸ x)) (hcv ▸ hrow)).all, own_sound rfl h1 (s := 0) (k := 0) (f := f) (sz := 0) (xs := xs)⟩
      · exact same
  · exact same
theorem ren_ok [Base] (H : HR X w h c) {s k : Nat} {v : V} {u : Value} (r : RV (Bad X h c) w h c v u) : ∃ c', Mv X (Mut h c) w h c w (renV s k v h).2 c' ∧ RV (Bad X (renV s k v h).2 c') w (renV s k v h).2 c' (renV s k v h).1 u := renC_ok H r
theorem homeC_ok [Base] (H : HR X w h c) {s k : Nat} {v : V} {u : Value} (r : RV (Bad X h c) w h c v u) : ∃ c', Mv X (Mut h c) w h c w (homeC s k v h).2 c' ∧ RV (Bad X (homeC s k v h).2 c') w (homeC s k v h).2 c' (homeC s k v h).1 u := by
  cases v with
  | nl f sz => cases r; exact ⟨_, nil_new H s k sz f, own_sound rfl rfl (s := 0) (k := 0) (f := f) (sz := 0) (xs := [])⟩
  | _ => exact ren_ok H r
theorem renC_cellOk {cd : Nat → Nat → Bool} {s k : Nat} {v : V} {h : Hp} (hv : v.cellOk = true) : (renC cd s k v h).1.cellOk = true := by
  unfold renC
  split
  · rename_i s' k' g
    cases hq : cd s' k' with
    | false => exact hv
    | true => simp only [cond_true]; split <;> rfl
  · exact hv
theorem renV_cellOk [Base] {s k : Nat} {v : V} {h : Hp} (hv : v.cellOk = true) : (renV s k v h).1.cellOk = true := renC_cellOk hv
theorem homeC_cellOk [Base] {s k : Nat} {v : V} {h : Hp} (hv : v.cellOk = true) : (homeC s k v h).1.cellOk = true := by
  cases v with
  | nl f sz => rfl
  | _ => exact renV_cellOk hv
theorem homeCs_ok [Base] : ∀ {vs : List V} {us : List Value} {h : Hp} {c : Cz} {s k : Nat}, HR X w h c → vs.length = us.length → (∀ x ∈ vs, x.cellOk = true) → (∀ (j : Nat) x u, vs[j]? = some x → us[j]? = some u → RV (Bad X h c) w h c x u) →
    ∃ c', Mv X (Mut h c) w h c w (homeCs s k vs h).2 c' ∧ (homeCs s k vs h).1.length = us.length ∧ (∀ x ∈ (homeCs s k vs h).1, x.cellOk = true) ∧ ∀ (j : Nat) x u, (homeCs s k vs h).1[j]? = some x → us[j]? = some u → RV (Bad X (homeCs s k vs h).2 c') w (homeCs s k vs h).2 c' x u
  | [], us, h, c, s, k, H, hl, ho, hr => ⟨c, Mv.id H, hl, by simp [homeCs], by simp [homeCs]⟩
  | v :: vs, us, h, c, s, k, H, hl, ho, hr => by
    cases us with
    | nil => simp at hl
    | cons u us =>
      obtain ⟨c1, m1, r1⟩ := homeC_ok H (s := s) (k := k) (hr 0 v u rfl rfl)
      obtain ⟨c2, m2, l2, o2, r2⟩ := homeCs_ok (s := s) (k := k + 1) m1.hr (by simpa using hl) (fun x hx => ho x (by simp [hx])) (fun j x u' a b => m1.rv (hr (j + 1) x u' (by simpa using a) (by simpa using b)))
      refine ⟨c2, m1.andThen m2, by simp [homeCs, l2], fun x hx => ?_, fun j x u' a b => ?_⟩
      · simp only [homeCs, List.mem_cons] at hx
        rcases hx with rfl | hx
        · exact homeC_cellOk (ho v (by simp))
        · exact o2 x hx
      · cases j with
        | zero => simp [homeCs] at a b; subst a; subst b; exact m2.rv r1
        | succ j => exact r2 j x u' (by simpa [homeCs] using a) (by simpa using b)
theorem homeAt_ok [Base] (H : HR X w h c) {s k : Nat} {v : V} {u : Value} (r : RV (Bad X h c) w h c v u) : ∃ c', Mv X (Mut h c) w h c w (homeAt s k v h).2 c' ∧ RV (Bad X (homeAt s k v h).2 c') w (homeAt s k v h).2 c' (homeAt s k v h).1 u := by
  cases r with
  | agg hl ho h1 hr =>
    rename_i cs us
    obtain ⟨c', m, l2, o2, r2⟩ := homeCs_ok (us := us.toList) (s := s) (k := k) H (by simpa using hl) ho (fun j x u a b => hr j x u a (by simpa using b))
    exact ⟨c', m, .agg (by simpa using l2) o2 h1 fun j x u a b => r2 j x u a (by simpa using b)⟩
  | d hx => exact homeC_ok H (.d hx)
  | nl => exact homeC_ok H .nl
  | own a b e => exact homeC_ok H (.own a b e)
  | ptr a b => exact homeC_ok H (.ptr a b)
  | ept a b => exact homeC_ok H (.ept a b)
  | rpt a b e => exact homeC_ok H (.rpt a b e)
  | tup a b => exact homeC_ok H (.tup a b)
  | u => exact homeC_ok H .u
theorem renC_fix {cd : Nat → Nat → Bool} {s k : Nat} {v : V} {h : Hp} (hv : ∀ f sz, v ≠ .nl f sz) (n) : (renC cd s k v h).1.fix n = (renC cd s k v h).1 := by
  have same : v.fix n = v := by cases v <;> first | rfl | exact (hv _ _ rfl).elim
  unfold renC
  split
  · rename_i s' k' g
    cases hq : cd s' k' with
    | false => rfl
    | true => simp only [cond_true]; split <;> rfl
  · exact same
theorem renV_fix [Base] {s k : Nat} {v : V} {h : Hp} (hv : ∀ f sz, v ≠ .nl f sz) (n) : (renV s k v h).1.fix n = (renV s k v h).1 := renC_fix hv n
theorem homeAt_fix [Base] {s k : Nat} {v : V} {h : Hp} (n) : (homeAt s k v h).1.fix n = (homeAt s k v h).1 := by
  cases v with
  | nl f sz => rfl
  | agg cs => rfl
  | _ => exact renV_fix (fun _ _ e => by cases e) n

theorem alloc_ok [Base] (T : TbOk P tb) (H : HR X w h c) {e d : Nat} {i : TI} (ht : tb e = some i) :
    ∃ u w' c', (Instr.alloc e true (.tuple #[])).run P w = .ok u w' ∧ Mv X (Mut h c) w h c w' ((homeCs d 1000 i.z h).2.new d 0 (.box (homeCs d 1000 i.z h).1)) c' ∧
      RV (Bad X ((homeCs d 1000 i.z h).2.new d 0 (.box (homeCs d 1000 i.z h).1)) c') w' ((homeCs d 1000 i.z h).2.new d 0 (.box (homeCs d 1000 i.z h).1)) c' (.ptr d 0 (((homeCs d 1000 i.z h).2 d 0).1 + 1) 0) u := by
  obtain ⟨z, h1, h2, h3, h4⟩ := T.zero ht
  have L : Lit (Bad X h c) w h c i.z z.cells.toList := by rw [h2]; exact Lit.zero h4
  obtain ⟨c1, m1, l1, o1, r1⟩ := homeCs_ok (us := z.cells.toList) (s := d) (k := 1000) H (by simpa using L.1) L.2.1 (fun j x u a b => (L.2.2 j x u a b).2)
  have m := box_new m1.hr d 0 e (cs := (homeCs d 1000 i.z h).1) (us := z.cells) (by simpa using l1) o1 fun j x u a b => by
    have b' : z.cells.toList[j]? = some u := by simpa using b
    obtain ⟨y, hy⟩ : ∃ y, i.z[j]? = some y := ⟨_, List.getElem?_eq_getElem (by rw [L.1]; exact (List.getElem?_eq_some_iff.1 b').1)⟩
    exact ⟨(L.2.2 j y u hy b').1, r1 j x u a b'⟩
  exact ⟨_, _, _, by simp only [Instr.alloc, Sem.run_bind, h1, Result.andThen_ok]; rfl, m1.andThen m, new_ptr⟩

theorem box_ok [Base] (T : TbOk P tb) (H : HR X w h c) {e d : Nat} {x : V} {xv : Value} (r : RV (Bad X h c) w h c x xv) {r' : V × Hp} (e' : homeAt d 1000 (x.fix (elSz tb e)) h = r') (hc : r'.1.cells.all V.cellOk = true) :
    ∃ u w' c', (Instr.box e xv).run P w = .ok u w' ∧ Mv X (Mut h c) w h c w' (r'.2.new d 0 (.box r'.1.cells)) c' ∧
      RV (Bad X (r'.2.new d 0 (.box r'.1.cells)) c') w' (r'.2.new d 0 (.box r'.1.cells)) c' (.ptr d 0 ((r'.2 d 0).1 + 1) 0) u := by
  subst e'
  obtain ⟨c1, m1, r1⟩ := homeAt_ok H (s := d) (k := 1000) (r.fix (elSz tb e))
  have hfx := homeAt_fix (s := d) (k := 1000) (v := x.fix (elSz tb e)) (h := h) (true, 0)
  obtain ⟨k1, k2, k3⟩ := cells_ok r1 (true, 0) (by rw [hfx]; exact hc)
  rw [hfx] at k1 k3
  have m := box_new m1.hr d 0 e (us := xv.cells) k1 (List.all_eq_true.1 hc) fun j y u a b => by
    have b' : xv.cells.toList[j]? = some u := by simpa using b
    exact ⟨k2 u (List.mem_of_getElem? b'), k3 j y u a b'⟩
  exact ⟨_, _, _, rfl, m1.andThen m, new_ptr⟩

theorem append_ok [Base] (T : TbOk P tb) (H : HR X w h c) {t a b e d ty : Nat} {zz : List V} (ht : tb t = some ⟨a, b, .sl e, zz⟩) {x y v : V} {xv yv : Value} (rx : RV (Bad X h c) w h c x xv) (ry : RV (Bad X h c) w h c y yv) (ee : appendV tb h e d x y = some (v, h')) :
    ∃ u w' c', (Builtin.append_ #[t, t] ty #[xv, yv]).run P w = .ok u w' ∧ Mv X (Mut h c) w h c w' h' c' ∧ RV (Bad X h' c') w' h' c' v u := by
  unfold appendV at ee
  cases he : tb e with
  | none => simp [he] at ee
  | some ie =>
    simp only [he] at ee
    obtain ⟨pi, z, p1, p2, p3, p4, p5, p6, p7, _⟩ := T.ok e ie he
    have hzs : z.cells.size = pi.size := by rw [p2, ← p6, ← Array.length_toList, p5, List.length_map]
    have hrun := fun (xv : Value) => append_run (P := P) (w := w) t ty e pi z (T.slice ht) p1 p4 hzs
    -- what y holds
    have rowY : ∀ {f' : Bool} {sz' : Nat} {ys : List (List D)}, rowOf h (y.fix ie.q) = some (f', sz', ys) → sz' = ie.sz → ∃ (A : Option Addr) (p : Nat) (news : List Value), yv = .slice A ys.length p ∧ news.length = ys.length * ie.sz ∧ (ys.length ≠ 0 → ∃ a, A = some a ∧ ∀ j u, news[j]? = some u → w.cell? (a.add j) = some u) ∧
        (∀ u ∈ news, u.oneCell' = true) ∧ (∀ y' ∈ ys, y'.length = ie.sz) ∧ (f' = true → ∀ y' ∈ ys, y'.all D.isP = true) ∧ ∀ (i : Nat) y' (j : Nat) z', ys[i]? = some y' → y'[j]? = some z' → ∃ u, news[i * ie.sz + j]? = some u ∧ RO (Bad X h c) w z' u := by
      intro f' sz' ys hr hs
      subst hs
      obtain ⟨A, p, k1, k2, k3, k4, k5⟩ := rowOf_ok H (ry.fix ie.q) hr
      by_cases hne : ys = []
      · subst hne
        exact ⟨A, p, [], k1, by simp, by simp, by simp, by simp, by simp, by simp⟩
      · obtain ⟨g, o, rfl, hcell⟩ := k5 hne
        obtain ⟨news, n1, n2, n3⟩ := flat_cells k3 (R := RO (Bad X h c) w) (f := fun q => w.cell? ⟨g, o + q, none⟩) hcell
        exact ⟨_, p, news, k1, n1, fun _ => ⟨_, rfl, fun j u hu => by rw [addr_add]; exact (n2 j u hu).1⟩, fun u hu => by
          obtain ⟨j, hj⟩ := List.getElem?_of_mem hu
          obtain ⟨_, z', hz'⟩ := n2 j u hj
          exact hz'.one, k3, k4, n3⟩
    cases hx : x.fix ie.q with
    | nl sz0 =>
      simp only [hx] at ee
      have rx' := rx.fix ie.q
      rw [hx] at rx'
      cases rx'
      cases hr : rowOf h (y.fix ie.q) with
      | none => simp [hr] at ee
      | some r =>
        obtain ⟨f', sz', ys⟩ := r
        simp only [hr] at ee
        split at ee
        case isFalse => cases ee
        rename_i hh
        obtain ⟨q1, q2, q3, q4⟩ := hh
        simp at ee
        obtain ⟨rfl, rfl⟩ := ee
        obtain ⟨A, p, news, rfl, n1, n2, n3, n4, n5, n6⟩ := rowY hr q1
        have ho : OwnRow w (.slice none 0 0) pi.size 0 [] := OwnRow.nil w _
        obtain ⟨v', w', r1, r2, r3, r4⟩ := append_run (P := P) (w := w) t ty e pi z (T.slice ht) p1 p4 hzs (by omega) (by omega) ho A ys.length p news (by rw [p2]; exact n1) n2 n3 (by rw [p3]; simpa using q4)
        subst q1
        refine ⟨v', w', _, r1, (Mv.new H (r3.mono fun g o _ x => ?_) d 0 (.row true f' ie.sz ys) v' (fun g o x => ?_) ⟨news, ?_, n4, n5, n6⟩).all, own_sound rfl ?_ (s := 0) (k := 0) (f := f') (sz := 0) (xs := ys)⟩
        · obtain ⟨a, q, r, e, _⟩ := x; cases e
        · cases v' with
          | slice A' q r =>
            cases A' with
            | none => exact x.elim
            | some a' =>
              rcases r4 a' q r rfl with ⟨_, _, _, e, _⟩ | hge
              · cases e
              · have : a'.block = g := x
                omega
          | _ => exact x.elim
        · rw [p2] at r2; simpa using r2
        · rcases r2.2 with ⟨e, _⟩ | ⟨_, _, _, _, e, _⟩ <;> rw [e] <;> rfl
    | own s k g =>
      simp only [hx] at ee
      have rx' := rx.fix ie.q
      rw [hx] at rx'
      cases hr : rowOf h (y.fix ie.q) with
      | none => simp [hr] at ee
      | some r =>
        obtain ⟨f', sz', ys⟩ := r
        simp only [hr] at ee
        cases hh : h.get s k g with
        | none => simp [hh] at ee
        | some ob =>
          cases ob with
          | box => simp [hh] at ee
          | lent => simp [hh] at ee
          | lentR => simp [hh] at ee
          | row o f sz xs =>
            cases o with
            | false => simp [hh] at ee
            | true =>
              simp only [hh] at ee
              split at ee
              case isFalse => cases ee
              rename_i hc
              obtain ⟨q0, q1, q2, q3, q4, _⟩ := hc
              simp at ee
              obtain ⟨rfl, rfl⟩ := ee
              obtain ⟨A, p, news, rfl, n1, n2, n3, n4, n5, n6⟩ := rowY hr q1
              subst q0
              have hrow := H.ok s k _ (get_some hh).2
              obtain ⟨us, ho, m1, m2, m3⟩ := hrow
              have hxv : xv = c s k := by
                cases rx' with
                | own hg hv h1 => exact hv _ hh rfl
              rw [hxv]
              rw [show ie.sz = pi.size from p2.symm] at ho
              obtain ⟨v', w', r1, r2, r3, r4⟩ := append_run (P := P) (w := w) t ty e pi z (T.slice ht) p1 p4 hzs (by omega) (by omega) ho A ys.length p news (by rw [p2]; exact n1) n2 n3 (by rw [p3]; exact q4)
              have hcv : ∀ g o, (∃ a q r, c s k = .slice (some a) q r ∧ a.block = g) ↔ cellsOf (.row true f ie.sz xs) (c s k) g o := by
                intro g o
                constructor
                · rintro ⟨a, q, r, e, rfl⟩; rw [e]; exact rfl
                · intro x
                  cases hck : c s k with
                  | slice A' q r =>
                    cases A' with
                    | none => rw [hck] at x; exact x.elim
                    | some a' => rw [hck] at x; exact ⟨a', q, r, rfl, x⟩
                  | _ => rw [hck] at x; exact x.elim
              refine ⟨v', w', _, r1, (Mv.swap H (get_some hh).2 (r3.mono fun g o _ x => (hcv g o).1 x) d 0 (.row true (f && f') ie.sz (xs ++ ys)) v' (fun g o x => ?_) ⟨us ++ news, ?_, fun y hy => ?_, fun hf y hy => ?_, fun i y j z' a b => ?_⟩).all, own_sound rfl ?_ (s := 0) (k := 0) (f := f') (sz := 0) (xs := ys)⟩
              · cases v' with
                | slice A' q r =>
                  cases A' with
                  | none => exact x.elim
                  | some a' =>
                    have hgx : a'.block = g := x
                    rcases r4 a' q r rfl with ⟨a2, q2, r2, e2, e3⟩ | hge
                    · exact .inl ((hcv g o).1 ⟨a2, q2, r2, e2, by omega⟩)
                    · exact .inr (by omega)
                | _ => exact x.elim
              · rw [p2] at r2; simpa using r2
              · rcases List.mem_append.1 hy with hy | hy
                · exact m1 y hy
                · exact n4 y hy
              · simp only [Bool.and_eq_true] at hf
                rcases List.mem_append.1 hy with hy | hy
                · exact m2 hf.1 y hy
                · exact n5 hf.2 y hy
              · have hul : us.length = xs.length * ie.sz := by rw [ho.1, p2]
                by_cases hi : i < xs.length
                · rw [List.getElem?_append_left hi] at a
                  obtain ⟨u, hu, hro⟩ := m3 i y j z' a b
                  exact ⟨u, by rw [List.getElem?_append_left (List.getElem?_eq_some_iff.1 hu).1]; exact hu, hro⟩
                · rw [List.getElem?_append_right (by omega)] at a
                  obtain ⟨u, hu, hro⟩ := n6 _ y j z' a b
                  refine ⟨u, ?_, hro⟩
                  have e1 : i * ie.sz = xs.length * ie.sz + (i - xs.length) * ie.sz := by rw [← Nat.add_mul]; congr 1; omega
                  rw [List.getElem?_append_right (by omega), e1, hul, show xs.length * ie.sz + (i - xs.length) * ie.sz + j - xs.length * ie.sz = (i - xs.length) * ie.sz + j by omega]
                  exact hu
              · rcases r2.2 with ⟨e, _⟩ | ⟨_, _, _, _, e, _⟩ <;> rw [e] <;> rfl
    | d | agg | ptr | ept | rpt | tup | u => simp [hx] at ee
end Go.Ev
