/- The evaluator: EvStore. -/
import Derived.Test.YtifomiglajcanaaGreatDoorEvMem
set_option linter.unusedSimpArgs false
set_option linter.unusedVariables false
namespace Go.Ev
set_option linter.unusedVariables false
variable {P : Program} {tb : Tb} {X M : Nat → Nat → Prop} {w w' : World} {h h' : Hp} {c c' : Cz}

theorem length_over {α : Type} {cs new : List α} {o : Nat} (hl : o + new.length ≤ cs.length) : (over cs o new).length = cs.length := by rw [over_eq _ _ _ hl]; simp; omega
theorem getElem?_over {α : Type} {cs new : List α} {o : Nat} (hl : o + new.length ≤ cs.length) (j : Nat) :
    (over cs o new)[j]? = if j < o then cs[j]? else if j < o + new.length then new[j - o]? else cs[j]? := by
  rw [over_eq _ _ _ hl]
  rw [List.append_assoc, List.getElem?_append]
  simp only [List.length_take, Nat.min_eq_left (show o ≤ cs.length by omega)]
  split
  · rw [List.getElem?_take, if_pos ‹_›]
  · rw [List.getElem?_append]
    by_cases h2 : j < o + new.length
    · rw [if_pos (by omega), if_pos h2]
    · rw [if_neg (by omega), if_neg h2, List.getElem?_drop]
      congr 1; omega
theorem over_cases [Base] {α : Type} {cs new : List α} {o : Nat} (hl : o + new.length ≤ cs.length) {j : Nat} {x : α} (e : (over cs o new)[j]? = some x) :
    (¬ (o ≤ j ∧ j < o + new.length) ∧ cs[j]? = some x) ∨ ∃ q, j = o + q ∧ new[q]? = some x := by
  rw [getElem?_over hl] at e
  split at e
  · exact .inl ⟨by omega, e⟩
  · split at e
    · exact .inr ⟨j - o, by omega, e⟩
    · exact .inl ⟨by omega, e⟩

theorem mod_self [Base] {h : Hp} {s k : Nat} {ob : Ob} (e : (h s k).2 = some ob) : h.mod s k (some ob) = h := by
  funext s' k'
  by_cases hn : s' = s ∧ k' = k
  · obtain ⟨rfl, rfl⟩ := hn; rw [Hp.mod_same, ← e]
  · rw [Hp.mod_ne _ _ hn]

theorem toD_ok [Base] (H : HR X w h c) {v : V} {u : Value} (r : RV (Bad X h c) w h c v u) {x : D} (e : v.toD h = some (x, h')) : Mv X (fun _ _ => False) w h c w h' c ∧ RO (Bad X h' c) w x u := by
  cases r with
  | d hx => simp [V.toD] at e; obtain ⟨rfl, rfl⟩ := e; exact ⟨Mv.refl H _ fun _ _ => id, hx⟩
  | nl => simp [V.toD] at e; obtain ⟨rfl, rfl⟩ := e; exact ⟨Mv.refl H _ fun _ _ => id, .l _ _ [] none 0 (fun _ _ => undef) (by simp) (by simp) (by simp) (fun h => absurd rfl h) (by simp)⟩
  | @own s k g v hg hv h1 =>
    simp only [V.toD] at e
    cases hh : h.get s k g with
    | none => simp [hh] at e
    | some ob =>
      cases ob with
      | box => simp [hh] at e
      | lent => simp [hh] at e
      | lentR => simp [hh] at e
      | row o f sz xs =>
        simp [hh] at e
        obtain ⟨rfl, rfl⟩ := e
        have hs := (get_some hh).2
        have m : Mv X (fun _ _ => False) w h c w (h.mod s k (some (.row false f sz xs))) c := by
          cases o with
          | true => exact Mv.freeze H hs
          | false => rw [mod_self hs]; exact Mv.refl H _ fun _ _ => id
        refine ⟨m, ?_⟩
        rw [hv _ hh rfl]
        exact m.hr.ok s k (.row false f sz xs) (by rw [Hp.mod_same])
  | agg | ptr | ept | rpt | tup | u => simp [V.toD] at e

theorem toDs_ok [Base] : ∀ {vs : List V} {us : List Value} {h h' : Hp} {xs : List D}, HR X w h c → (∀ (j : Nat) x u, vs[j]? = some x → us[j]? = some u → RV (Bad X h c) w h c x u) → vs.length = us.length → toDs vs h = some (xs, h') →
    Mv X (fun _ _ => False) w h c w h' c ∧ xs.length = us.length ∧ ∀ (j : Nat) x u, xs[j]? = some x → us[j]? = some u → RO (Bad X h' c) w x u
  | [], us, h, h', xs, H, _, hl, e => by
    simp [toDs] at e; obtain ⟨rfl, rfl⟩ := e
    exact ⟨Mv.refl H _ fun _ _ => id, by simpa using hl, by simp⟩
  | v :: vs, [], h, h', xs, H, _, hl, e => by simp at hl
  | v :: vs, u :: us, h, h', xs, H, hr, hl, e => by
    simp only [toDs, Option.bind_eq_some_iff, Option.map_eq_some_iff, Prod.exists] at e
    obtain ⟨x, h1, e1, xs', h2, e2, e3⟩ := e
    simp at e3; obtain ⟨rfl, rfl⟩ := e3
    obtain ⟨m1, r1⟩ := toD_ok H (hr 0 v u rfl rfl) e1
    obtain ⟨m2, hl2, r2⟩ := toDs_ok m1.hr (fun j x y a b => m1.rv (hr (j + 1) x y (by simpa using a) (by simpa using b))) (by simpa using hl) e2
    refine ⟨m1.trans m2 (fun _ _ _ x => x.elim id id) (fun _ _ _ x => x.elim), by simp [hl2], fun j x y a b => ?_⟩
    cases j with
    | zero => simp at a b; subst a; subst b; exact m2.ro r1
    | succ j => exact r2 j x y (by simpa using a) (by simpa using b)

/-- What a value lays into cells. -/
theorem cells_ok [Base] {B : Nat → Nat → Prop} {x : V} {u : Value} (r : RV B w h c x u) (n : Bool × Nat) (ho : (x.fix n).cells.all V.cellOk = true) :
    (x.fix n).cells.length = u.cells.size ∧ (∀ y ∈ u.cells.toList, y.oneCell' = true) ∧ ∀ (j : Nat) y z, (x.fix n).cells[j]? = some y → u.cells.toList[j]? = some z → RV B w h c y z := by
  have one : ∀ {x : V} {u : Value}, RV B w h c x u → x.cellOk = true → (∀ cs, x ≠ .agg cs) → x.fix n = x → (x.fix n).cells.length = u.cells.size ∧ (∀ y ∈ u.cells.toList, y.oneCell' = true) ∧ ∀ (j : Nat) y z, (x.fix n).cells[j]? = some y → u.cells.toList[j]? = some z → RV B w h c y z := by
    intro x u r ho hx hfix
    have h1 := r.one ho
    have hu : u.cells = #[u] := by cases u <;> first | rfl | cases h1
    have hc : x.cells = [x] := by cases x <;> first | rfl | exact absurd rfl (hx _)
    rw [hfix, hc, hu]
    refine ⟨rfl, by simpa using h1, fun j y z a b => ?_⟩
    cases j with
    | zero => simp at a b; subst a; subst b; exact r
    | succ j => simp at a
  cases r with
  | d hx => exact one (.d hx) rfl (fun _ e => by cases e) rfl
  | @nl sz => exact ⟨rfl, by simp [Value.cells, Value.oneCell'], fun j y z a b => by
      cases j with
      | zero => simp [V.fix, V.cells, Value.cells] at a b; subst a; subst b; exact .nl
      | succ j => simp [V.fix, V.cells] at a⟩
  | own hg hv h1 => exact one (.own hg hv h1) rfl (fun _ e => by cases e) rfl
  | agg hl ho' h1 hr => exact ⟨by simpa [V.fix, V.cells, Value.cells] using hl, fun y hy => by
      obtain ⟨j, ej⟩ := List.getElem?_of_mem hy
      exact h1 j y (by simpa [Value.cells] using ej), fun j y z a b => hr j y z (by simpa [V.fix, V.cells] using a) (by simpa [Value.cells] using b)⟩
  | ptr | ept | rpt | tup | u => simp [V.fix, V.cells, V.cellOk] at ho

theorem cell_setCells (b o g q : Nat) (us : List Value) (w : World) (hc : ∀ j, j < us.length → (w.cell? ⟨b, o + j, none⟩).isSome = true) :
    (w.setCells b o us).cell? ⟨g, q, none⟩ = if g = b ∧ o ≤ q ∧ q < o + us.length then us[q - o]? else w.cell? ⟨g, q, none⟩ := by
  split
  · rename_i hh
    obtain ⟨rfl, h1, h2⟩ := hh
    have := World.cell?_setCells_in g us o w hc (q - o) (by omega)
    rw [show o + (q - o) = q by omega] at this
    rw [this, List.getElem?_eq_getElem (by omega)]
  · exact World.cell?_setCells_out b us o w ⟨g, q, none⟩ (by simp; omega)

theorem heap_setCell_ne (w : World) (b o : Nat) (v : Value) (g : Nat) (hn : g ≠ b) : (w.setCell ⟨b, o, none⟩ v).heap[g]? = w.heap[g]? := by
  simp only [World.setCell, Array.getElem?_modify]
  rw [if_neg (by omega)]
theorem Fr.setCell [Base] (w : World) (b o : Nat) (v : Value) : Fr (fun g q => g = b ∧ q = o) w (w.setCell ⟨b, o, none⟩ v) :=
  ⟨rfl, rfl, rfl, by simp [World.setCell], fun g hg hn => heap_setCell_ne w b o v g (fun e => hn o ⟨e, rfl⟩),
   fun g q hg hn => ⟨World.cell?_setCell_other _ _ _ _ (by simp; exact fun a b => hn ⟨a.symm, b.symm⟩), World.frozen?_setCell _ _ _ _⟩⟩
theorem Fr.setCells [Base] (b : Nat) : ∀ (us : List Value) (o : Nat) (w : World), Fr (fun g q => g = b ∧ o ≤ q ∧ q < o + us.length) w (w.setCells b o us)
  | [], o, w => Fr.refl _ _
  | v :: us, o, w => (Fr.setCell w b o v).trans (Fr.setCells b us (o + 1) _) (fun g q _ hh => ⟨hh.1, by omega, by simp; omega⟩) (fun g q _ hh => ⟨hh.1, by omega, by simp; omega⟩)
theorem Fr.setRow {w : World} {b : Nat} {cur : Array Value} {e : TypeId} (hg : w.heap[b]? = some (.cells cur e (0, 0))) (cs : Array Value) : Fr (fun g _ => b = g) w (w.setRow b cs) :=
  ⟨rfl, rfl, rfl, by simp, fun g _ hn => setRow_other w b g cs (fun e => hn 0 e.symm), fun g q _ hn => ⟨cell_setRow_other w b cs _ (fun e => hn e.symm), World.frozen?_of_block (setRow_other w b g cs (fun e => hn e.symm))⟩⟩

theorem storeV_ok [Base] (T : TbOk P tb) (H : HR X w h c) {t : Nat} {a x : V} {av xv : Value} (ra : RV (Bad X h c) w h c a av) (rx : RV (Bad X h c) w h c x xv) (e : storeV tb h t a x = some h') :
    ∃ w', (Instr.storeAt t av xv).run P w = .ok () w' ∧ Mv X (Mut h c) w h c w' h' c := by
  simp only [storeV] at e
  split at e
  case isFalse => cases e
  rename_i hok
  obtain ⟨ht, hlen, hco⟩ := hok
  obtain ⟨i, ht⟩ := Option.isSome_iff_exists.1 ht
  obtain ⟨hcl, hc1, hcr⟩ := cells_ok rx (elSz tb t) hco
  rw [szOf_of ht] at hlen
  have hsz : xv.cells.size = i.sz := by omega
  have hrun : ∀ ad, (Instr.storeAt t (.pointer (some ad)) xv).run P w = (storeCells ad xv.cells.toList).run P w := by
    intro ad
    simp [Instr.storeAt, Instr.sureAddr, storeVar, T.run_size ht, hsz]
  generalize hus : xv.cells.toList = us at *
  have hul : us.length = ((x.fix (elSz tb t)).cells).length := by rw [hcl, ← hus, Array.length_toList]
  cases ra with
  | @ptr s k g o _ hg hv =>
    cases hh : h.get s k g with
    | none => simp [hh] at e
    | some ob =>
      cases ob with
      | row => simp [hh] at e
      | lent => simp [hh] at e
      | lentR => simp [hh] at e
      | box ds =>
        simp only [hh] at e
        split at e
        case isFalse => cases e
        rename_i hfit
        injection e with e; subst e
        obtain ⟨a, h1, h2, rfl⟩ := hv _ hh rfl
        have hbox := H.ok s k _ (get_some hh).2
        obtain ⟨a', h1', h2', hb⟩ := hbox
        rw [h1] at h1'; injection h1' with h1'; injection h1' with h1'; subst h1'
        have hcell : ∀ j, j < us.length → (w.cell? ⟨a.block, a.off + o + j, none⟩).isSome = true ∧ w.frozen? ⟨a.block, a.off + o + j, none⟩ = false := by
          intro j hj
          obtain ⟨y, hy⟩ : ∃ y, ds[o + j]? = some y := ⟨_, List.getElem?_eq_getElem (by omega)⟩
          obtain ⟨_, u, hu, hf, _⟩ := hb (o + j) y hy
          rw [Nat.add_assoc]
          exact ⟨by rw [hu]; rfl, hf⟩
        have hst := run_storeCells_cells (P := P) a.block (a.off + o) us 0 w (by simpa using fun j hj => (hcell j hj).1) (by simpa using fun j hj => (hcell j hj).2) hc1
        refine ⟨_, (hrun _).trans hst, ?_⟩
        have hF := Fr.setCells a.block us (a.off + o) w
        have hcs := cell_setCells a.block (a.off + o)
        refine (Mv.upd (ob' := .box (over ds o (x.fix (elSz tb t)).cells)) H (get_some hh).2 (hF.mono fun g q _ hq => ?_) ?_ trivial ?_).all
        · rw [h1]; exact ⟨hq.1.symm, by omega, by omega⟩
        · rw [h1]; intro g q hq; rw [cellsOf, length_over hfit] at hq; exact hq
        · refine ⟨a, h1, h2, fun j y hy => ?_⟩
          have hnew := hcs a.block (a.off + j) us w (fun j hj => (hcell j hj).1)
          rcases over_cases hfit hy with ⟨hout, hy⟩ | ⟨q, rfl, hz⟩
          · obtain ⟨p1, u, p2, p3, p4, p5⟩ := hb j y hy
            refine ⟨p1, u, ?_, by rw [World.frozen?_setCells]; exact p3, p4, p5⟩
            show World.cell? _ _ = _
            rw [hnew, if_neg (by rintro ⟨_, h3, h4⟩; exact hout ⟨by omega, by omega⟩), p2]
          · have hq : q < us.length := by have := (List.getElem?_eq_some_iff.1 hz).1; omega
            obtain ⟨u, hu⟩ : ∃ u, us[q]? = some u := ⟨_, List.getElem?_eq_getElem hq⟩
            refine ⟨List.all_eq_true.1 hco y (List.mem_of_getElem? hz), u, ?_, by rw [World.frozen?_setCells, ← Nat.add_assoc]; exact (hcell q hq).2, hc1 u (List.mem_of_getElem? hu), hcr q y u hz hu⟩
            show World.cell? _ _ = _
            rw [hnew, if_pos ⟨rfl, by omega, by omega⟩, show a.off + (o + q) - (a.off + o) = q by omega, hu]
  | @ept s k g i' o _ hg hv =>
    simp only [Option.bind_eq_some_iff, Prod.exists] at e
    obtain ⟨ys, h1, e1, e⟩ := e
    obtain ⟨m1, hyl, hyr⟩ := toDs_ok H hcr hul.symm e1
    cases hh : h1.get s k g with
    | none => simp [hh] at e
    | some ob =>
      cases ob with
      | box => simp [hh] at e
      | lent => simp [hh] at e
      | lentR => simp [hh] at e
      | row own f sz xs =>
        cases own with
        | false => simp [hh] at e
        | true =>
          simp only [hh] at e
          cases hx : xs[i']? with
          | none => simp [hx] at e
          | some z =>
            simp only [hx] at e
            split at e
            case isFalse => cases e
            rename_i hfit
            injection e with e; subst e
            have hrow := m1.hr.ok s k _ (get_some hh).2
            -- where the row lies
            have hiv : i' < xs.length := (List.getElem?_eq_some_iff.1 hx).1
            have r1 := m1.rv (.ept (o := o) hg hv : RV (Bad X h c) w h c (.ept s k g i' o) _)
            cases r1 with
            | ept hg' hv' =>
              obtain ⟨b, q, n, p, hcv, rfl⟩ := hv' _ hh rfl hiv
              obtain ⟨us0, ho, hz, hf, hr⟩ := hrow
              rcases ho.2 with ⟨e2, _⟩ | ⟨g', cap, cur, ty, e2, hg2, hnc, hcm, hcs, htake⟩
              · rw [hcv] at e2; cases e2
              · rw [hcv] at e2; injection e2 with e2 e3 e4; injection e2 with e2; injection e2 with e2 e5; subst e2; subst e5; subst e3; subst e4
                have hzl : z.length = sz := hz z (List.mem_of_getElem? hx)
                have hblk : i' * sz + sz ≤ xs.length * sz := by have := Nat.mul_le_mul_right sz (show i' + 1 ≤ xs.length from hiv); rwa [Nat.add_mul, Nat.one_mul] at this
                have hcap : xs.length * sz ≤ p * sz := Nat.mul_le_mul_right sz hnc
                have hl0 := ho.1
                have hp : (i' * sz + o) + us.length ≤ us0.length := by omega
                have hcl2 : cur.toList.length = cur.size := Array.length_toList ..
                have hpc : (i' * sz + o) + us.length ≤ cur.toList.length := by omega
                have hst := run_storeCells_at (P := P) b (i' * sz + o) ty us 0 cur w hg2 (by omega) hc1
                have hov : (cur.toList.take (i' * sz + o + 0) ++ us ++ cur.toList.drop (i' * sz + o + 0 + us.length)) = over cur.toList (i' * sz + o) us := by rw [Nat.add_zero, over_eq _ _ _ hpc]
                rw [hov] at hst
                refine ⟨_, (hrun _).trans (by rw [Nat.zero_add]; exact hst), ?_⟩
                have hlen2 := length_over hp
                have hlen3 := length_over hpc
                have m2 : Mv X (cellsOf (.row true f sz xs) (c s k)) w h1 c (w.setRow b (over cur.toList (i' * sz + o) us).toArray) (h1.mod s k (some (.row true (f && ys.all D.isP) sz (xs.set i' (over z o ys))))) c := by
                  refine Mv.upd m1.hr (get_some hh).2 (by rw [hcv]; exact Fr.setRow hg2 _) (fun g q hq => ?_) ⟨rfl, by simp⟩ ?_
                  · rw [hcv] at hq ⊢; exact hq
                  · rw [hcv]
                    refine ⟨over us0 (i' * sz + o) us, ⟨?_, .inr ⟨b, p, _, ty, by rw [List.length_set], setRow_heap w b cur _ ty _ hg2, by rw [List.length_set]; exact hnc, hcm, ?_, ?_⟩⟩, ?_, ?_, ?_⟩
                    · rw [hlen2, hl0, List.length_set]
                    · simp only [List.size_toArray]; rw [hlen3, hcl2]; exact hcs
                    · rw [List.length_set]
                      apply List.ext_getElem?
                      intro m
                      rw [List.getElem?_take, getElem?_over hp]
                      by_cases hm : m < xs.length * sz
                      · rw [if_pos hm, getElem?_over hpc]
                        have hcur : cur.toList[m]? = us0[m]? := by rw [← htake, List.getElem?_take, if_pos hm]
                        rw [hcur]
                      · rw [if_neg hm, if_neg (by omega), if_neg (by omega), List.getElem?_eq_none (by omega)]
                    · intro x' hx'
                      rcases List.mem_or_eq_of_mem_set hx' with hx' | rfl
                      · exact hz x' hx'
                      · rw [length_over hfit]; exact hzl
                    · intro hf' x' hx'
                      simp only [Bool.and_eq_true] at hf'
                      rcases List.mem_or_eq_of_mem_set hx' with hx' | rfl
                      · exact hf hf'.1 x' hx'
                      · rw [List.all_eq_true]
                        intro y hy
                        obtain ⟨q, hq⟩ := List.getElem?_of_mem hy
                        rcases over_cases hfit hq with ⟨_, hq⟩ | ⟨q', rfl, hq3⟩
                        · exact List.all_eq_true.1 (hf hf'.1 z (List.mem_of_getElem? hx)) y (List.mem_of_getElem? hq)
                        · exact List.all_eq_true.1 hf'.2 y (List.mem_of_getElem? hq3)
                    · intro i2 x2 j2 y2 hx2 hy2
                      rw [getElem?_over hp]
                      rw [List.getElem?_set] at hx2
                      by_cases hi2 : i' = i2
                      · subst hi2
                        simp [hiv] at hx2
                        subst hx2
                        rcases over_cases hfit hy2 with ⟨hout, hy2⟩ | ⟨q', rfl, hy3⟩
                        · obtain ⟨u, hu, hro⟩ := hr i' z j2 y2 hx hy2
                          refine ⟨u, ?_, hro⟩
                          split
                          · exact hu
                          · rw [if_neg (by omega)]; exact hu
                        · have hq : q' < us.length := by have := (List.getElem?_eq_some_iff.1 hy3).1; omega
                          obtain ⟨u, hu⟩ : ∃ u, us[q']? = some u := ⟨_, List.getElem?_eq_getElem hq⟩
                          refine ⟨u, ?_, hyr q' y2 u hy3 hu⟩
                          rw [if_neg (by omega), if_pos (by omega), show i' * sz + (o + q') - (i' * sz + o) = q' by omega, hu]
                      · rw [if_neg hi2] at hx2
                        obtain ⟨u, hu, hro⟩ := hr i2 x2 j2 y2 hx2 hy2
                        refine ⟨u, ?_, hro⟩
                        have hj2 : j2 < sz := by rw [← hz x2 (List.mem_of_getElem? hx2)]; exact (List.getElem?_eq_some_iff.1 hy2).1
                        rcases Nat.lt_or_gt_of_ne hi2 with hlt | hlt
                        · have := Nat.mul_le_mul_right sz (show i' + 1 ≤ i2 from hlt)
                          rw [Nat.add_mul, Nat.one_mul] at this
                          rw [if_neg (by omega), if_neg (by omega)]; exact hu
                        · have := Nat.mul_le_mul_right sz (show i2 + 1 ≤ i' from hlt)
                          rw [Nat.add_mul, Nat.one_mul] at this
                          rw [if_pos (by omega)]; exact hu
                exact m1.andThen m2
  | d | nl | agg | own | rpt | tup | u => simp at e
end Go.Ev
