/- The evaluator: EvOps5. -/
import Derived.Test.YtifomiglajcanaaGreatDoorEvOps4
set_option linter.unusedSimpArgs false
set_option linter.unusedVariables false
namespace Go.Ev
set_option linter.unusedVariables false
variable {P : Program} {tb : Tb} {X M : Nat → Nat → Prop} {w w' : World} {h h' : Hp} {c c' : Cz} {B : Nat → Nat → Prop}

theorem int_ok {x : V} {u : Value} {n : Int} (r : RV B w h c x u) (e : x.int? = some n) : ∃ k, u = .int k n := by
  cases r with
  | d hx =>
    cases hx with
    | p _ h1 => cases u <;> simp [V.int?] at e; subst e; exact ⟨_, rfl⟩
    | l => simp [V.int?] at e
  | nl | agg | own | ptr | ept | rpt | tup | u => simp [V.int?] at e

theorem fieldAddr_run [Base] (T : TbOk P tb) {st a b : Nat} {fs : List (Nat × Nat)} {z : List V} (ht : tb st = some ⟨a, b, .st fs, z⟩) {f off ft : Nat} (hf : fs[f]? = some (off, ft)) (h0 : szOf tb ft ≠ 0) (g q : Nat) (w : World) :
    (Instr.fieldAt st (.pointer (some ⟨g, q, none⟩)) f).run P w = .ok (.pointer (some ⟨g, q + off, none⟩)) w := by
  obtain ⟨fa, hu, hfs, hsz⟩ := T.struct ht
  have hfa : ∃ fl : Field, fa[f]? = some fl ∧ fl.offset = off ∧ fl.type = ft := by
    rw [← hfs, List.getElem?_map] at hf
    cases hx : fa.toList[f]? with
    | none => simp [hx] at hf
    | some fl => simp [hx] at hf; exact ⟨fl, by simpa using hx, hf.1, hf.2⟩
  obtain ⟨fl, k1, rfl, rfl⟩ := hfa
  obtain ⟨qi, k2, k3⟩ := hsz (fl.offset, fl.type) (List.mem_of_getElem? hf)
  have hs : (sizeOf fl.type).run P w = .ok (szOf tb fl.type) w := by simp [sizeOf, typeInfo, k2]; exact k3
  simp [Instr.fieldAt, run_underlying hu, k1, Instr.sureAddr, fieldPlace, hs, h0, addr_add]

theorem field_run [Base] (T : TbOk P tb) {t a b : Nat} {fs : List (Nat × Nat)} {z : List V} (ht : tb t = some ⟨a, b, .st fs, z⟩) {f off ft : Nat} (hf : fs[f]? = some (off, ft)) {cs : List V} {u : Value} (r : RV B w h c (.agg cs) u) {v : V} (e : partV tb ft cs off = some v) :
    ∃ u', (Instr.field t u f).run P w = .ok u' w ∧ RV B w h c v u' := by
  obtain ⟨fa, hu, hfs, hsz⟩ := T.struct ht
  have hfa : ∃ fl : Field, fa[f]? = some fl ∧ fl.offset = off ∧ fl.type = ft := by
    rw [← hfs, List.getElem?_map] at hf
    cases hx : fa.toList[f]? with
    | none => simp [hx] at hf
    | some fl => simp [hx] at hf; exact ⟨fl, by simpa using hx, hf.1, hf.2⟩
  obtain ⟨fl, k1, rfl, rfl⟩ := hfa
  cases r with
  | @agg _ us hl ho h1 hr =>
    unfold partV at e
    cases ht2 : tb fl.type with
    | none =>
      have h0 : szOf tb fl.type = 0 := by simp only [szOf, ht2]
      have h1 : isAgg tb fl.type = false := by simp only [isAgg, ht2]
      simp [h0, h1] at e
    | some i =>
      have hs := szOf_of ht2
      have ha := T.run_agg ht2 w
      split at e
      · rename_i hle
        split at e
        · rename_i hagg
          injection e with e; subst e
          refine ⟨.agg (us.extract fl.offset (fl.offset + i.sz)), by simp [Instr.field, run_underlying hu, k1, part, asAgg, ha, hagg, T.run_size ht2], ?_⟩
          refine .agg (by simp [hs]; omega) (fun x hx => ho x (List.mem_of_mem_drop (List.mem_of_mem_take hx))) (fun j u hu' => ?_) (fun j x u hx hu' => ?_)
          · have : us[fl.offset + j]? = some u := by
              rw [Array.getElem?_extract] at hu'
              split at hu'
              · exact hu'
              · cases hu'
            exact h1 _ u this
          · obtain ⟨e1, e2⟩ := getElem?_part hx
            have : us[fl.offset + j]? = some u := by
              rw [Array.getElem?_extract] at hu'
              split at hu'
              · exact hu'
              · cases hu'
            exact hr _ x u e1 this
        · rename_i hagg
          split at e
          · have hlt : fl.offset < us.size := by have := (List.getElem?_eq_some_iff.1 e).1; omega
            have hu' : us[fl.offset]? = some us[fl.offset] := Array.getElem?_eq_getElem hlt
            exact ⟨us[fl.offset], by simp [Instr.field, run_underlying hu, k1, part, asAgg, ha, hagg, hu'], hr _ v _ e hu'⟩
          · cases e
      · cases e

theorem indexAddr_ok [Base] (T : TbOk P tb) (H : HR X w h c) {t a b e : Nat} {z : List V} (ht : tb t = some ⟨a, b, .sl e, z⟩) (he : (tb e).isSome = true) {x : V} {u : Value} (r : RV (Bad X h c) w h c x u) {f : Bool} {sz : Nat} {xs : List (List D)} (hr : rowOf h x = some (f, sz, xs))
    {i : Int} {k : IntKind} (h0 : 0 ≤ i) (h1 : i < xs.length) (hs : sz = szOf tb e) :
    ∃ u', (Instr.indexAt t u (.int k i)).run P w = .ok u' w ∧ RV (Bad X h c) w h c (x.idx f sz xs i.toNat) u' := by
  obtain ⟨ie, he⟩ := Option.isSome_iff_exists.1 he
  have hsz := T.run_size he w
  rw [szOf_of he] at hs
  obtain ⟨A, p, rfl, hp, hz, hf, hA⟩ := rowOf_ok H r hr
  obtain ⟨g, o, rfl, hcell⟩ := hA (by intro e; subst e; simp at h1; omega)
  have hrun : (Instr.indexAt t (.slice (some ⟨g, o, none⟩) xs.length p) (.int k i)).run P w = .ok (.pointer (some ⟨g, o + i.toNat * ie.sz, none⟩)) w := by
    have hsa : (some (⟨g, o, none⟩ : Addr)) = some ⟨g, o, none⟩ := rfl
    simp [Instr.indexAt, asIntOf, run_underlying (T.slice ht), h0, h1, hsz, addr_add]
  refine ⟨_, hrun, ?_⟩
  have ro : ∀ {v : V}, (match v with | .own .. => False | _ => True) → rowOf h v = some (f, sz, xs) → RV (Bad X h c) w h c v (.slice (some ⟨g, o, none⟩) xs.length p) → RV (Bad X h c) w h c (.rpt f sz xs i.toNat 0) (.pointer (some ⟨g, o + i.toNat * ie.sz, none⟩)) := by
    intro v hv hrow rv
    cases rv with
    | @d y _ hx =>
      cases y with
      | p => simp [rowOf] at hrow
      | l => simp [rowOf] at hrow; obtain ⟨rfl, rfl, rfl⟩ := hrow; exact .rpt hx (by omega) (by rw [Nat.add_zero, hs])
    | own => exact hv.elim
    | u | ptr | ept | rpt => simp [rowOf] at hrow
  cases x with
  | own s k' g' =>
    cases r with
    | own hg hv h1' =>
      refine .ept hg fun ob hh hb hi => ?_
      have hc := hv ob hh hb
      cases ob with
      | row o' f' sz' xs' =>
        simp only [rowOf, hh] at hr
        injection hr with hr; injection hr with _ hr; injection hr with hr _
        exact ⟨g, o, _, _, hc.symm, by simp only [Ob.dim]; rw [Nat.add_zero, hr, hs]⟩
      | _ => simp only [rowOf, hh] at hr; cases hr
  | d => exact ro trivial hr r
  | nl => simp [rowOf] at hr; obtain ⟨_, _, rfl⟩ := hr; simp at h1; omega
  | agg | ptr | ept | rpt | tup | u => simp [rowOf] at hr

theorem sub_getElem {α : Type} {xs : List α} {l r i : Nat} {x : α} (e : ((xs.take r).drop l)[i]? = some x) : xs[l + i]? = some x ∧ l + i < r := by
  rw [List.getElem?_drop, List.getElem?_take] at e
  split at e
  · exact ⟨e, ‹_›⟩
  · cases e
theorem RO.sub [Base] {f : Bool} {sz : Nat} {xs : List (List D)} {A : Option Addr} {n p l r : Nat} (ro : RO B w (.l f sz xs) (.slice A n p)) (hl : l ≤ r) (hr : r ≤ xs.length) :
    RO B w (.l f sz ((xs.take r).drop l)) (.slice (if p = l then A else A.map (·.add (l * sz))) (r - l) (p - l)) := by
  cases ro with
  | l f sz xs A c u hc hz hf ha hrr =>
    have hlen : ((xs.take r).drop l).length = r - l := by simp; omega
    rw [← hlen]
    have hmem : ∀ y ∈ (xs.take r).drop l, y ∈ xs := fun y hy => List.mem_of_mem_take (List.mem_of_mem_drop hy)
    refine .l f sz _ _ _ (fun i j => u (l + i) j) (by rw [hlen]; omega) (fun y hy => hz y (hmem y hy)) (fun hff y hy => hf hff y (hmem y hy)) (fun hne => ?_) (fun i x j y a b => hrr _ x j y (sub_getElem a).1 b)
    have hlt : l < r := by rcases Nat.lt_or_ge l r with h | h; exact h; exact absurd (List.eq_nil_of_length_eq_zero (by omega)) hne
    obtain ⟨g, o, rfl, hcell⟩ := ha (by intro e; subst e; simp at hr; omega)
    refine ⟨g, o + l * sz, by rw [if_neg (by omega)]; simp [addr_add], fun i j hi hj => ?_⟩
    have := hcell (l + i) j (by omega) hj
    rw [Nat.add_mul] at this
    rwa [show o + l * sz + (i * sz + j) = o + (l * sz + i * sz + j) by omega]
/-- A slice as data, whatever it is. -/
theorem rowOf_ro {x : V} {u : Value} {f : Bool} {sz : Nat} {xs : List (List D)} (r : RV B w h c x u) (e : rowOf h x = some (f, sz, xs)) (hx : ∀ s k g, x ≠ .own s k g) : RO B w (.l f sz xs) u := by
  cases r with
  | @d y _ hx' =>
    cases y with
    | p => simp [rowOf] at e
    | l => simp [rowOf] at e; obtain ⟨rfl, rfl, rfl⟩ := e; exact hx'
  | nl => simp [rowOf] at e; obtain ⟨rfl, rfl, rfl⟩ := e; exact .l _ _ [] none 0 (fun _ _ => undef) (by simp) (by simp) (by simp) (fun h => absurd rfl h) (by simp)
  | own => exact absurd rfl (hx _ _ _)
  | agg | ptr | ept | rpt | tup | u => simp [rowOf] at e

theorem slice_run [Base] (T : TbOk P tb) {t a b e : Nat} {z : List V} (ht : tb t = some ⟨a, b, .sl e, z⟩) {ie : TI} (he : tb e = some ie) {A : Option Addr} {n p : Nat} (hn : n ≤ p) {lo hi : Option Value} {l r : Int}
    (hlo : match lo with | some v => ∃ k, v = .int k l | none => l = 0) (hhi : match hi with | some v => ∃ k, v = .int k r | none => r = n) (h0 : 0 ≤ l) (h1 : l ≤ r) (h2 : r ≤ n) (w : World) :
    (Instr.sliceAt t (.slice A n p) lo hi none).run P w = .ok (.slice (if p = l.toNat then A else A.map (·.add (l.toNat * ie.sz))) (r.toNat - l.toNat) (p - l.toNat)) w := by
  have hu := run_underlying (T.slice ht)
  have hsz := T.run_size he w
  have hb : (Instr.sliceBounds true n p lo hi none).run P w = .ok (l.toNat, r.toNat, p) w := by
    cases lo with
    | none =>
      subst hlo
      cases hi with
      | none => subst hhi; simp [Instr.sliceBounds]
      | some v => obtain ⟨k, rfl⟩ := hhi; simp [Instr.sliceBounds, Instr.sliceBound, asIntOf, show 0 ≤ r by omega, show r ≤ (p : Int) by omega]
    | some v =>
      obtain ⟨k, rfl⟩ := hlo
      cases hi with
      | none => subst hhi; simp [Instr.sliceBounds, Instr.sliceBound, asIntOf, h0, h1]
      | some v =>
        obtain ⟨k, rfl⟩ := hhi
        simp [Instr.sliceBounds, Instr.sliceBound, asIntOf, show 0 ≤ r by omega, show r ≤ (p : Int) by omega, h0, show l ≤ max r 0 by omega]
  simp [Instr.sliceAt, Instr.slice, hu, hb, hsz]

theorem slice_ok [Base] (T : TbOk P tb) (H : HR X w h c) {t a b e d : Nat} {z : List V} (ht : tb t = some ⟨a, b, .sl e, z⟩) {ρ : Operand → V} {ρc : Operand → Value} (hρ : ∀ x, RV (Bad X h c) w h c (ρ x) (ρc x)) {x : Operand} {lo hi mx : Option Operand} {v : V}
    (ee : sliceV tb h e d (ρ x) (lo.map ρ) (hi.map ρ) (mx.map ρ) = some (v, h')) :
    ∃ u w' c', (Instr.sliceAt t (ρc x) (lo.map ρc) (hi.map ρc) (mx.map ρc)).run P w = .ok u w' ∧ Mv X (Mut h c) w h c w' h' c' ∧ RV (Bad X h' c') w' h' c' v u := by
  unfold sliceV at ee
  cases hr : rowOf h (ρ x) with
  | none => simp [hr] at ee
  | some q =>
    obtain ⟨f, sz, xs⟩ := q
    simp only [hr] at ee
    cases mx with
    | some m => simp at ee
    | none =>
      obtain ⟨A, p, hxv, hp, hz, hf, hA⟩ := rowOf_ok H (hρ x) hr
      split at ee
      case h_2 => cases ee
      rename_i l r hlo hhi _
      split at ee
      case isFalse => cases ee
      rename_i hc
      obtain ⟨he, hs, h0, h1, h2⟩ := hc
      obtain ⟨ie, he⟩ := Option.isSome_iff_exists.1 he
      rw [szOf_of he] at hs
      have hrun := slice_run (P := P) T ht he (A := A) hp (lo := lo.map ρc) (hi := hi.map ρc) (l := l) (r := r) (by
        cases lo with
        | none => simp at hlo ⊢; exact hlo.symm
        | some y => simp at hlo ⊢; exact int_ok (hρ y) hlo) (by
        cases hi with
        | none => simp at hhi ⊢; exact hhi.symm
        | some y => simp at hhi ⊢; exact int_ok (hρ y) hhi) h0 h1 h2 w
      rw [hxv]
      have hlr : l.toNat ≤ r.toNat := by omega
      have hrl : r.toNat ≤ xs.length := by omega
      have ro : RO (Bad X h c) w (.l f sz xs) (.slice A xs.length p) → RV (Bad X h c) w h c (.d (.l f sz ((xs.take r.toNat).drop l.toNat))) (.slice (if p = l.toNat then A else A.map (·.add (l.toNat * ie.sz))) (r.toNat - l.toNat) (p - l.toNat)) := by
        intro h1; rw [← hs]; exact .d (h1.sub hlr hrl)
      split at ee
      · rename_i s k g hx hlon
        have hlo0 : lo = none := by cases lo <;> simp at hlon ⊢
        subst hlo0
        simp at hlo
        subst hlo
        have rx := hρ x
        rw [hx] at rx hr
        cases rx with
        | own hg hv h1' =>
          simp only [rowOf] at hr
          cases hh : h.get s k g with
          | none => simp [hh] at hr
          | some ob =>
            cases ob with
            | box => simp [hh] at hr
            | lent => simp [hh] at hr
            | lentR => simp [hh] at hr
            | row o f' sz' xs' =>
              simp [hh] at hr
              obtain ⟨rfl, rfl, rfl⟩ := hr
              have hcv := hv _ hh rfl
              rw [hxv] at hcv
              have hrow := H.ok s k _ (get_some hh).2
              simp only [hh] at ee
              cases o with
              | false =>
                simp at ee
                obtain ⟨rfl, rfl⟩ := ee
                have := ro (by rw [hcv]; exact hrow)
                exact ⟨_, w, c, hrun, Mv.id H, by simpa using this⟩
              | true =>
                simp at ee
                obtain ⟨rfl, rfl⟩ := ee
                have hval : (Value.slice (if p = (0 : Int).toNat then A else A.map (·.add ((0 : Int).toNat * ie.sz))) (r.toNat - (0 : Int).toNat) (p - (0 : Int).toNat)) = .slice A r.toNat p := by
                  cases A <;> simp [Addr.add]
                rw [hval] at hrun
                obtain ⟨us, ho, m1, m2, m3⟩ := hrow
                rw [← hcv] at ho
                refine ⟨_, w, _, hrun, (Mv.swap H (get_some hh).2 (Fr.refl _ _) d 0 (.row true f' sz' (xs'.take r.toNat)) (.slice A r.toNat p) (fun g o x => .inl ?_) ⟨us.take (r.toNat * sz'), ⟨?_, ?_⟩, fun y hy => m1 y (List.mem_of_mem_take hy), fun hff y hy => m2 hff y (List.mem_of_mem_take hy), fun i y j z a b => ?_⟩).all, own_sound rfl rfl (s := 0) (k := 0) (f := f') (sz := 0) (xs := xs')⟩
                · rw [← hcv]; cases A with
                  | none => exact x.elim
                  | some a => exact x
                · have := Nat.mul_le_mul_right sz' hrl
                  rw [List.length_take, List.length_take, ho.1, Nat.min_eq_left hrl]; omega
                · rcases ho.2 with ⟨e1, e2⟩ | ⟨g', cap, cur, ty, e1, k1, k2, k3, k4, k5⟩
                  · injection e1 with e1 e3 e4
                    subst e1; subst e4
                    have : r.toNat = 0 := by omega
                    rw [this]
                    exact .inl ⟨rfl, by simp⟩
                  · injection e1 with e1 e3 e4
                    subst e1; subst e4
                    refine .inr ⟨g', p, cur, ty, by rw [List.length_take, Nat.min_eq_left hrl], k1, by rw [List.length_take]; omega, k3, k4, ?_⟩
                    rw [← k5, List.take_take, List.length_take, Nat.min_eq_left hrl, Nat.min_eq_left (Nat.mul_le_mul_right sz' hrl)]
                · rw [List.getElem?_take] at a
                  split at a
                  · rename_i hi
                    obtain ⟨u, hu, hro⟩ := m3 i y j z a b
                    have hj : j < sz' := by rw [← m1 y (List.mem_of_getElem? a)]; exact (List.getElem?_eq_some_iff.1 b).1
                    exact ⟨u, by rw [List.getElem?_take, if_pos (idx_lt hi hj)]; exact hu, hro⟩
                  · cases a
      · rename_i s k g lv hx hlov
        have rx := hρ x
        rw [hx] at rx hr
        simp at ee
        obtain ⟨rfl, rfl⟩ := ee
        cases rx with
        | own hg hv h1' =>
          simp only [rowOf] at hr
          cases hh : h.get s k g with
          | none => simp [hh] at hr
          | some ob =>
            cases ob with
            | box => simp [hh] at hr
            | lent => simp [hh] at hr
            | lentR => simp [hh] at hr
            | row o f' sz' xs' =>
              simp [hh] at hr
              obtain ⟨rfl, rfl, rfl⟩ := hr
              have hcv := hv _ hh rfl
              rw [hxv] at hcv
              have m : Mv X (fun _ _ => False) w h c w (h.mod s k (some (.row false f' sz' xs'))) c := by
                cases o with
                | true => exact Mv.freeze H (get_some hh).2
                | false => rw [mod_self (get_some hh).2]; exact Mv.refl H _ fun _ _ => _root_.id
              have hro := m.hr.ok s k (.row false f' sz' xs') (by rw [Hp.mod_same])
              rw [← hcv] at hro
              exact ⟨_, w, c, hrun, m.all, by rw [← hs]; exact .d (RO.sub hro hlr hrl)⟩
      · rename_i hx1 hx2
        simp at ee
        obtain ⟨rfl, rfl⟩ := ee
        have hno : ∀ s k g, ρ x ≠ .own s k g := by
          intro s k g e
          cases hl : lo.map ρ with
          | none => exact hx1 s k g e hl
          | some lv => exact hx2 s k g lv e hl
        have := rowOf_ro (hρ x) hr hno
        rw [hxv] at this
        exact ⟨_, w, c, hrun, Mv.id H, ro this⟩

theorem slice_runM [Base] (T : TbOk P tb) {t a b e : Nat} {z : List V} (ht : tb t = some ⟨a, b, .sl e, z⟩) {ie : TI} (he : tb e = some ie) {A : Option Addr} {n p : Nat} (hn : n ≤ p) {k k' : IntKind} {r m : Int}
    (h1 : 0 ≤ r) (h2 : r ≤ m) (h3 : m ≤ n) (w : World) :
    (Instr.sliceAt t (.slice A n p) none (some (.int k r)) (some (.int k' m))).run P w = .ok (.slice (if m.toNat = 0 then A else A.map (·.add (0 * ie.sz))) (r.toNat - 0) (m.toNat - 0)) w := by
  have hu := run_underlying (T.slice ht)
  have hsz := T.run_size he w
  have hb : (Instr.sliceBounds true n p none (some (.int k r)) (some (.int k' m))).run P w = .ok (0, r.toNat, m.toNat) w := by
    simp [Instr.sliceBounds, Instr.sliceBound, asIntOf, show 0 ≤ m by omega, show m ≤ (p : Int) by omega, h1, show r ≤ max m 0 by omega]
  simp [Instr.sliceAt, Instr.slice, hu, hb, hsz]
theorem RO.recap {f : Bool} {sz : Nat} {xs : List (List D)} {A : Option Addr} {p r m : Nat} {n : Nat} (ro : RO B w (.l f sz xs) (.slice A n p)) (hr : r ≤ xs.length) (hm : r ≤ m) :
    RO B w (.l f sz (xs.take r)) (.slice (if m = 0 then A else A.map (·.add (0 * sz))) (r - 0) (m - 0)) := by
  cases ro with
  | l f sz xs A c u hc hz hf ha hrr =>
    have hlen : (xs.take r).length = r := by simp; omega
    have e : (if m = 0 then A else A.map (·.add (0 * sz))) = A := by
      split
      · rfl
      · cases A <;> simp [Addr.add]
    have key : RO B w (.l f sz (xs.take r)) (.slice A (xs.take r).length m) :=
      .l f sz _ _ _ u (by omega) (fun y hy => hz y (List.mem_of_mem_take hy)) (fun hff y hy => hf hff y (List.mem_of_mem_take hy)) (fun hne => by
        obtain ⟨g, o, e, hcell⟩ := ha (by intro e; subst e; simp at hne)
        exact ⟨g, o, e, fun i j hi hj => hcell i j (by rw [hlen] at hi; omega) hj⟩) (fun i x j y a b => hrr i x j y (by rw [List.getElem?_take] at a; split at a; exact a; cases a) b)
    rw [e, Nat.sub_zero, Nat.sub_zero]
    rw [hlen] at key; exact key
theorem slicem_ok [Base] (T : TbOk P tb) (H : HR X w h c) {t a b e : Nat} {z : List V} (ht : tb t = some ⟨a, b, .sl e, z⟩) {ρ : Operand → V} {ρc : Operand → Value} (hρ : ∀ x, RV (Bad X h c) w h c (ρ x) (ρc x)) {x mx : Operand} {lo hi : Option Operand} {v : V}
    (ee : sliceM tb h e (ρ x) (lo.map ρ) (hi.map ρ) (some (ρ mx)) = some (v, h')) :
    ∃ u w' c', (Instr.sliceAt t (ρc x) (lo.map ρc) (hi.map ρc) (some (ρc mx))).run P w = .ok u w' ∧ Mv X (Mut h c) w h c w' h' c' ∧ RV (Bad X h' c') w' h' c' v u := by
  unfold sliceM at ee
  split at ee
  case h_2 => cases ee
  rename_i f sz xs r m hr hlo hhi hmx
  cases lo with
  | some y => simp at hlo
  | none =>
  cases hi with
  | none => simp at hhi
  | some y =>
  simp at hhi hmx
  obtain ⟨k, hk⟩ := int_ok (hρ y) hhi
  obtain ⟨k', hk'⟩ := int_ok (hρ mx) hmx
  split at ee
  case isFalse => cases ee
  rename_i hc
  obtain ⟨he, hs, h0, h1, h2⟩ := hc
  obtain ⟨ie, he⟩ := Option.isSome_iff_exists.1 he
  rw [szOf_of he] at hs
  obtain ⟨A, p, hxv, hp, hz, hf, hA⟩ := rowOf_ok H (hρ x) hr
  have hrun := slice_runM (P := P) T ht he (A := A) hp (k := k) (k' := k') h0 h1 h2 w
  simp only [Option.map_none, Option.map_some, hk, hk', hxv]
  split at ee
  · rename_i s q g hx
    have rx := hρ x
    rw [hx] at rx hr
    simp at ee
    obtain ⟨rfl, rfl⟩ := ee
    cases rx with
    | own hg hv h1' =>
      simp only [rowOf] at hr
      cases hh : h.get s q g with
      | none => simp [hh] at hr
      | some ob =>
        cases ob with
        | box => simp [hh] at hr
        | lent => simp [hh] at hr
        | lentR => simp [hh] at hr
        | row o f' sz' xs' =>
          simp [hh] at hr
          obtain ⟨rfl, rfl, rfl⟩ := hr
          have hcv := hv _ hh rfl
          rw [hxv] at hcv
          have m : Mv X (fun _ _ => False) w h c w (h.mod s q (some (.row false f' sz' xs'))) c := by
            cases o with
            | true => exact Mv.freeze H (get_some hh).2
            | false => rw [mod_self (get_some hh).2]; exact Mv.refl H _ fun _ _ => _root_.id
          have hro := m.hr.ok s q (.row false f' sz' xs') (by rw [Hp.mod_same])
          rw [← hcv] at hro
          exact ⟨_, w, c, hrun, m.all, by rw [← hs]; exact .d (hro.recap (by omega) (by omega))⟩
  · rename_i hx1
    simp at ee
    obtain ⟨rfl, rfl⟩ := ee
    have := rowOf_ro (hρ x) hr (fun s k g e => hx1 s k g e)
    rw [hxv] at this
    exact ⟨_, w, c, hrun, Mv.id H, by rw [← hs]; exact .d (this.recap (by omega) (by omega))⟩
end Go.Ev
