/- The evaluator: EvCode. -/
import Derived.Test.YtifomiglajcanaaGreatDoorEvKeep
import Derived.LoopN
set_option linter.unusedSimpArgs false
set_option linter.unusedVariables false
namespace Go.Ev
set_option linter.unusedVariables false
variable {P : Program} {tb : Tb} {md : Md} {call : CallF} {X X' M : Nat → Nat → Prop} {w w' : World} {h h' : Hp} {c c' : Cz} {B B' : Nat → Nat → Prop} {S S' : St} {a a' : Act}

/-- A frame and what stands for it. -/
structure FR [Base] (X : Nat → Nat → Prop) (w : World) (S : St) (c : Cz) (a : Act) : Prop where
  hr : HR X w S.h c
  env : ∀ i, RV (Bad X S.h c) w S.h c (S.env i) (a.tmps.getD i undef)
  size : a.tmps.size = S.n
  defers : a.defers = []
theorem FR.ev [Base] (H : FR X w S c a) (x : Operand) : RV (Bad X S.h c) w S.h c (S.ev x) (a.eval x) := by
  cases x with
  | tmp t => exact H.env t
  | const v =>
    show RV _ _ _ _ (constV v) v
    unfold constV
    split
    · exact .nl
    · split
      · exact .d (.p _ ‹_›)
      · exact .u
  | global g => exact .u
  | func f => exact .d (.p _ rfl)
theorem FR.put [Base] (H : FR X w S c a) (m : Mv X (Mut S.h c) w S.h c w' h' c') {v : V} {u : Value} (r : RV (Bad X h' c') w' h' c' v u) (d : Option Nat) : FR X w' (S.put d v h') c' (a.put d u) := by
  have old : ∀ i, RV (Bad X h' c') w' h' c' (S.env i) (a.tmps.getD i undef) := fun i => m.rv (H.env i)
  cases d with
  | none => exact ⟨m.hr, old, H.size, H.defers⟩
  | some d =>
    refine ⟨m.hr, fun i => ?_, by simp [Act.put, St.put_def, H.size], H.defers⟩
    simp only [St.put_def, Act.put, Array.getD_eq_getD_getElem?, Array.getElem?_setIfInBounds]
    by_cases hd : d < S.n
    · rw [if_pos hd]
      by_cases hi : i = d
      · subst hi; simp [H.size, hd]; exact r
      · rw [if_neg hi, if_neg (fun e => hi e.symm)]
        have := old i; rwa [Array.getD_eq_getD_getElem?] at this
    · rw [if_neg hd]
      have := old i
      rw [Array.getD_eq_getD_getElem?] at this
      by_cases hi : d = i
      · subst hi
        rw [if_pos rfl, if_neg (by rw [H.size]; exact hd)]
        rw [Array.getElem?_eq_none (by rw [H.size]; omega)] at this
        exact this
      · rw [if_neg hi]; exact this

theorem FR.wanted [Base] (H : FR X w S c a) {ops : Array Oper} {o : Oper} {b : Bool} (e : wantedV ops S.env o = some b) : Region.wanted o (yielded ops a.tmps) = b := by
  unfold wantedV at e
  unfold Region.wanted
  cases hg : o.guard with
  | none => simp [hg] at e ⊢; exact e
  | some p =>
    obtain ⟨g, want⟩ := p
    simp only [hg] at e ⊢
    cases hd : (ops[g]?).bind (·.dst) with
    | none => simp [hd] at e
    | some d =>
      simp only [hd] at e
      have r := H.env d
      split at e
      · rename_i t ht
        injection e with e; subst e
        rw [ht] at r
        have hv := val1_ok r (a := .bool t) rfl
        have : a.tmps[d]? = some (.bool t) := by
          rw [Array.getD_eq_getD_getElem?] at hv
          cases hq : a.tmps[d]? with
          | none => rw [hq] at hv; cases hv
          | some q => rw [hq] at hv; exact congrArg some hv
        simp [yielded, hd, this]
      · rename_i ht
        injection e with e; subst e
        rw [ht] at r
        generalize hu : a.tmps.getD d undef = u at *
        cases r with
        | @tup _ us hl _ =>
          have hus : us = #[] := Array.eq_empty_of_size_eq_zero hl.symm
          subst hus
          have : yielded ops a.tmps g = none := by
            simp only [yielded, hd, Option.bind_some]
            rw [Array.getD_eq_getD_getElem?] at hu
            cases hq : a.tmps[d]? with
            | none => rfl
            | some q => rw [hq] at hu; simp at hu; subst hu; rfl
          simp [this]
      · cases e

theorem evOp_ok [Base] (T : TbOk P tb) (hC : CallOk P call) (H : FR X w S c a) {ops : Array Oper} {o : Oper} (e : evOp P tb md call ops o S = some S') {next : Act → World → Prop} {Q : Exit → Act → World → Prop}
    (hnext : ∀ w' c' a', FR X w' S' c' a' → Mv X (Mut S.h c) w S.h c w' S'.h c' → next a' w') :
    if Region.wanted o (yielded ops a.tmps) then o.wp P a w next Q else next (a.put o.dst undef) w := by
  simp only [evOp, Option.bind_eq_some_iff] at e
  obtain ⟨b, hb, e⟩ := e
  rw [H.wanted hb]
  cases b with
  | false =>
    simp at e ⊢; subst e
    exact hnext _ _ _ (H.put (Mv.id H.hr) (.tup rfl (by simp)) o.dst) (Mv.id H.hr)
  | true =>
    simp only [if_true, Option.map_eq_some_iff, Prod.exists] at e ⊢
    obtain ⟨v, h', e, rfl⟩ := e
    by_cases hn : ∀ cl f, o.op = .call cl → cl.callee ≠ .value f
    · obtain ⟨u, w', c', hs, m, r⟩ := exec_ok T H.hr (fun x => H.ev x) e hn
      unfold Oper.wp
      rcases hs with hs | ⟨hs, rfl⟩
      · rw [hs]; exact hnext _ _ _ (H.put m r o.dst) m
      · rw [hs]; exact hnext _ _ _ (H.put m .u o.dst) m
    · simp only [Classical.not_forall, Classical.not_not] at hn
      obtain ⟨cl, f, hop, hf⟩ := hn
      obtain ⟨callee, args, argTypes⟩ := cl
      simp only at hf; subst hf
      simp only [exec, hop] at e
      split at e
      · rename_i g first captured hfv
        split at e
        case isFalse => cases e
        rename_i hh
        obtain ⟨q1, q2, q3, q4⟩ := hh
        obtain rfl := Array.eq_empty_of_size_eq_zero q1
        obtain rfl := Array.eq_empty_of_size_eq_zero q2
        have hfc := val1_ok (H.ev f) (a := .func (.func g) #[] #[]) (by rw [hfv]; rfl)
        have hrs : ∀ (j : Nat) x u, (args.toList.map S.ev)[j]? = some x → ((args.map a.eval).toList)[j]? = some u → RV (Bad X S.h c) w S.h c x u := fun j x u p q => by
          simp only [List.getElem?_map, Array.toList_map] at p q
          cases hj : args.toList[j]? with
          | none => simp [hj] at p
          | some y => simp [hj] at p q; subst p; subst q; exact H.ev y
        obtain ⟨⟨fn, k1, k2, k3⟩, hcall⟩ : Enters P g ∧ Calls P g (args.map a.eval).toList.toArray w fun e w' => ∃ u c', e = .returned u ∧ Mv X (Mut S.h c) w S.h c w' _ c' ∧ RV (Bad X _ c') w' _ c' _ u := by
          cases hk : (keepL md g).isEmpty with
          | true =>
            rw [hk] at e
            cases hh : (homeL md g).isEmpty || homedAll S.h (args.toList.map S.ev) && outOk tb (outL md g) (fixTys md g argTypes.toList) (args.toList.map S.ev) with
            | true => rw [hh] at e; exact callV_ok hC (Nat.not_le.2 q4) H.hr hrs (by simp) e
            | false => rw [hh] at e; cases e
          | false => rw [hk] at e; exact keepV_ok hC q4 H.hr hrs (by simp) e
        unfold Oper.wp
        have hrun : (execOp a.eval o).run P w = .ok (.enter g (args.map a.eval)) w := by
          have k2' : ¬ fn.name = "runtime.NumGoroutine" := by simpa using k2
          have k3' : ¬ fn.body = none := fun h => by rw [h] at k3; cases k3
          simp [execOp, hop, resolve, Deferred.ofValue, hfc, invoke, callFunc, k1, k2', k3']
        rw [hrun, Oper.upon_enter]
        rw [Array.toArray_toList] at hcall
        refine hcall.mono ?_
        rintro en w' ⟨u, c', rfl, m, r⟩
        exact hnext _ _ _ (H.put m r o.dst) m
      · cases e

/-- From one frame to another: what all steps keep. -/
structure Go_ [Base] (X : Nat → Nat → Prop) (w : World) (S : St) (c : Cz) (w' : World) (S' : St) (c' : Cz) (a' : Act) : Prop where
  fr : FR X w' S' c' a'
  frm : Fr (Mut S.h c) w w'
  mut_ : ∀ g o, g < w.heap.size → Mut S'.h c' g o → Mut S.h c g o
  keep : ∀ s k g o v, S.n ≤ s → k = 0 → RV (Bad X S.h c) w S.h c (.ptr s k g o) v → RV (Bad X S'.h c') w' S'.h c' (.ptr s k g o) v
  keepO : ∀ s k g v, S.n ≤ s → k = 0 → RV (Bad X S.h c) w S.h c (.own s k g) v → RV (Bad X S'.h c') w' S'.h c' (.own s k g) v
  n : S'.n = S.n
theorem Go_.of [Base] (H : FR X w' S' c' a') (m : Mv X (Mut S.h c) w S.h c w' S'.h c') (hn : S'.n = S.n) : Go_ X w S c w' S' c' a' := ⟨H, m.fr, m.mut_, fun s k g o v _ _ r => m.rv r, fun s k g v _ _ r => m.rv r, hn⟩
theorem Go_.refl [Base] (H : FR X w S c a) : Go_ X w S c w S c a := .of H (Mv.id H.hr) rfl
theorem Go_.trans [Base] {w'' : World} {S'' : St} {c'' : Cz} {a'' : Act} (x : Go_ X w S c w' S' c' a') (y : Go_ X w' S' c' w'' S'' c'' a'') : Go_ X w S c w'' S'' c'' a'' :=
  ⟨y.fr, x.frm.trans y.frm (fun _ _ _ h => h) (fun g o hg h => x.mut_ g o hg h), fun g o hg h => x.mut_ g o hg (y.mut_ g o (Nat.lt_of_lt_of_le hg x.frm.size) h),
   fun s k g o v hs hk r => y.keep s k g o v (by rw [x.n]; exact hs) hk (x.keep s k g o v hs hk r), fun s k g v hs hk r => y.keepO s k g v (by rw [x.n]; exact hs) hk (x.keepO s k g v hs hk r), y.n.trans x.n⟩

/-! ### Generations made literal -/
theorem cellsOf_nrm (n : Nat) (h : Hp) (ob : Ob) (v : Value) (g o : Nat) : cellsOf (ob.nrm n h) v g o = cellsOf ob v g o := by
  cases ob with
  | row => rfl
  | lent => rfl
  | lentR => rfl
  | box cs =>
    cases v <;> try rfl
    rename_i a
    cases a <;> simp [Ob.nrm, cellsOf]
theorem nrm_2 {n : Nat} {h : Hp} {s k : Nat} {ob : Ob} (e : (h.nrm n s k).2 = some ob) : ∃ ob', (h s k).2 = some ob' ∧ ob = ob'.nrm n h := by
  simp only [Hp.nrm, Option.map_eq_some_iff] at e
  obtain ⟨ob', e, q⟩ := e
  exact ⟨ob', e, q.symm⟩
theorem Mut_nrm [Base] (n : Nat) (h : Hp) (c : Cz) : Mut (h.nrm n) c = Mut h c := by
  funext g o
  refine propext ⟨fun ⟨s, k, ob, e, q⟩ => ?_, fun ⟨s, k, ob, e, q⟩ => ⟨s, k, ob.nrm n h, by simp [Hp.nrm, e], by rw [cellsOf_nrm]; exact q⟩⟩
  obtain ⟨ob', e', rfl⟩ := nrm_2 e
  exact ⟨s, k, ob', e', by rw [cellsOf_nrm] at q; exact q⟩
theorem Bad_nrm [Base] (X : Nat → Nat → Prop) (n : Nat) (h : Hp) (c : Cz) : Bad X (h.nrm n) c = Bad X h c := by
  funext g o; simp only [Bad, Mut_nrm]
theorem ngen_get [Base] {n : Nat} {h : Hp} {s k g : Nat} {ob : Ob} (e : (h.nrm n).get s k (ngen n h s k g) = some ob) : ∃ ob', h.get s k g = some ob' ∧ ob = ob'.nrm n h := by
  obtain ⟨e1, e2⟩ := get_some e
  obtain ⟨ob', e3, e4⟩ := nrm_2 e2
  refine ⟨ob', get_of ?_ e3, e4⟩
  simp only [Hp.nrm, ngen] at e1
  cases hb : Nat.ble n s && Nat.beq k 0 with
  | true => simpa [hb] using e1
  | false =>
    rw [hb] at e1
    cases hq : Nat.beq (h s k).1 g with
    | true => exact Nat.eq_of_beq_eq_true hq
    | false => rw [hq] at e1; simp at e1
theorem ngen_le {n : Nat} {h : Hp} {s k g : Nat} (hg : g ≤ (h s k).1) : ngen n h s k g ≤ (h.nrm n s k).1 := by
  simp only [Hp.nrm, ngen]
  cases Nat.ble n s && Nat.beq k 0 with
  | true => exact hg
  | false => cases Nat.beq (h s k).1 g <;> simp
theorem RV.nrm [Base] {B : Nat → Nat → Prop} {h : Hp} {n : Nat} {x : V} {v : Value} (r : RV B w h c x v) : RV B w (h.nrm n) c (x.nrm n h) v := by
  induction r with
  | d hx => exact .d hx
  | nl => exact .nl
  | @agg cs us hl ho h1 hr ih =>
    have same : ∀ x ∈ cs, x.nrm1 n h = x.nrm n h := fun x hx => by
      have := ho x hx
      cases x <;> first | rfl | cases this
    refine .agg (by simpa using hl) (fun y hy => ?_) h1 fun j y u a b => ?_
    · obtain ⟨x, hx, rfl⟩ := List.mem_map.1 hy
      rw [same x hx]
      have := ho x hx
      cases x <;> first | rfl | cases this
    · rw [List.getElem?_map] at a
      cases hx : cs[j]? with
      | none => rw [hx] at a; cases a
      | some x =>
        rw [hx] at a
        simp only [Option.map_some, Option.some.injEq] at a
        rw [same x (List.mem_of_getElem? hx)] at a
        rw [← a]
        exact ih j x u hx b
  | own hg hv h1 =>
    refine .own (ngen_le hg) (fun ob e hb => ?_) h1
    obtain ⟨ob', e', q⟩ := ngen_get e
    subst q
    exact hv ob' e' (by cases ob' <;> exact hb)
  | ptr hg hv =>
    refine .ptr (ngen_le hg) fun ob e hb => ?_
    obtain ⟨ob', e', q⟩ := ngen_get e
    subst q
    refine hv ob' e' ?_
    cases ob' <;> exact hb
  | ept hg hv =>
    refine .ept (ngen_le hg) fun ob e hb hi => ?_
    obtain ⟨ob', e', q⟩ := ngen_get e
    subst q
    have hd : (ob'.nrm n h).dim = ob'.dim := by cases ob' <;> rfl
    rw [hd] at hi ⊢
    exact hv ob' e' (by cases ob' <;> exact hb) hi
  | rpt hx hi hv => exact .rpt hx hi hv
  | tup => exact .u
  | u => exact .u
theorem HR.nrm [Base] {h : Hp} (H : HR X w h c) (n : Nat) : HR X w (h.nrm n) c := by
  refine ⟨by rw [Bad_nrm]; exact H.bs, fun s k ob e => ?_, fun s k s' k' ob ob' g o e e' hne q => ?_, fun g o q => H.nx g o (by rw [Mut_nrm] at q; exact q), H.xl⟩
  · rw [Bad_nrm]
    obtain ⟨ob', e', rfl⟩ := nrm_2 e
    have r := H.ok s k ob' e'
    cases ob' with
    | row o f sz xs => cases o <;> exact r
    | lent => trivial
    | lentR => trivial
    | box cs =>
      obtain ⟨a, h1, h2, h3⟩ := r
      refine ⟨a, h1, h2, fun j x q => ?_⟩
      rw [List.getElem?_map] at q
      cases hx : cs[j]? with
      | none => rw [hx] at q; cases q
      | some y =>
        rw [hx] at q
        simp only [Option.map_some, Option.some.injEq] at q
        subst q
        obtain ⟨k1, u, k2, k3, k4, k5⟩ := h3 j y hx
        refine ⟨?_, u, k2, k3, k4, k5.nrm⟩
        cases y <;> first | rfl | cases k1
  · obtain ⟨p, e1, rfl⟩ := nrm_2 e
    obtain ⟨p', e2, rfl⟩ := nrm_2 e'
    rw [cellsOf_nrm] at q ⊢
    exact H.sep s k s' k' p p' g o e1 e2 hne q
theorem FR.norm [Base] (H : FR X w S c a) : Go_ X w S c w S.norm c a := by
  refine ⟨⟨H.hr.nrm S.n, fun i => ?_, H.size, H.defers⟩, Fr.refl _ _, fun g o _ q => by simp only [St.norm, Mut_nrm] at q; exact q, fun s k g o v hs hk r => ?_, fun s k g v hs hk r => ?_, rfl⟩
  · simp only [St.norm, Bad_nrm]; exact (H.env i).nrm
  · have := r.nrm (n := S.n)
    simp only [St.norm, Bad_nrm]
    have hg : ngen S.n S.h s k g = g := by subst hk; simp [ngen, Nat.ble_eq_true_of_le hs]
    simpa only [V.nrm, hg] using this
  · have := r.nrm (n := S.n)
    simp only [St.norm, Bad_nrm]
    have hg : ngen S.n S.h s k g = g := by subst hk; simp [ngen, Nat.ble_eq_true_of_le hs]
    simpa only [V.nrm, hg] using this
theorem evOp_n {ops : Array Oper} {o : Oper} (e : evOp P tb md call ops o S = some S') : S'.n = S.n := by
  simp only [evOp, Option.bind_eq_some_iff] at e
  obtain ⟨b, hb, e⟩ := e
  cases b with
  | false => simp at e; subst e; rfl
  | true => simp at e; obtain ⟨_, _, _, rfl⟩ := e; rfl

theorem wpOp_ok [Base] (T : TbOk P tb) (hC : CallOk P call) (H : FR X w S c a) {ops : Array Oper} {i : Nat} {o : Oper} (ho : ops[i]? = some o) (e : evOp P tb md call ops o S = some S') {K : Act → World → Prop} {Q : Exit → Act → World → Prop}
    (hK : ∀ w' c' a', Go_ X w S c w' S' c' a' → K a' w') : wpOp P ops Q i K a w := by
  have := evOp_ok T hC H (ops := ops) e (next := K) (Q := Q) fun w' c' a' h1 h2 => hK w' c' a' (.of h1 h2 (evOp_n e))
  simp only [wpOp, ho]
  split
  · rename_i hw; rw [if_pos hw] at this; exact .inl this
  · rename_i hw; rw [if_neg hw] at this; exact this

theorem evOps_ok [Base] (T : TbOk P tb) (hC : CallOk P call) {ops : Array Oper} {Q : Exit → Act → World → Prop} : ∀ {os : List Oper} {k : Nat} {S S' : St} {c : Cz} {a : Act} {w : World}, FR X w S c a → ops.toList.drop k = os → evOps P tb md call ops os S = some S' →
    (∀ w' c' a', Go_ X w S c w' S' c' a' → Q .normal a' w') → wpOps P ops Q (List.range' k os.length) a w
  | [], k, S, S', c, a, w, H, hd, e, hQ => by
    simp [evOps] at e; subst e
    exact hQ w c a (Go_.refl H)
  | o :: os, k, S, S', c, a, w, H, hd, e, hQ => by
    simp only [evOps, Option.bind_eq_some_iff] at e
    obtain ⟨S1, e1, e2⟩ := e
    have ho : ops[k]? = some o := by
      have := congrArg (·[0]?) hd
      simp at this; simpa using this
    have hd' : ops.toList.drop (k + 1) = os := by
      have := congrArg List.tail hd
      simpa using this
    rw [List.length_cons, List.range'_succ, wpOps_cons]
    exact wpOp_ok T hC H ho e1 fun w' c' a' g => evOps_ok T hC g.fr hd' e2 fun w'' c'' a'' g' => hQ w'' c'' a'' (g.trans g')

def Out.exit : Out → Exit
  | .nrm => .normal
  | .ret => .ret
  | .ex i => .exit i

/-- What is asked of a piece of code. -/
def CodeOk [Base] (P : Program) (tb : Tb) (md : Md) (call : CallF) (n : Nat) (cd : Code) : Prop := ∀ (X : Nat → Nat → Prop) (S S' : St) (o : Out) (c : Cz) (a : Act) (w : World) (Q : Exit → Act → World → Prop),
  FR X w S c a → evC P tb md call n cd S = some (o, S') → (∀ w' c' a', Go_ X w S c w' S' c' a' → Q o.exit a' w') → cd.wp P Q a w

theorem loop_ok [Base] {body : Code} {f : St → Option (Out × St)} (hb : ∀ (X : Nat → Nat → Prop) (S S' : St) (o : Out) (c : Cz) (a : Act) (w : World) (Q : Exit → Act → World → Prop), FR X w S c a → f S = some (o, S') → (∀ w' c' a', Go_ X w S c w' S' c' a' → Q o.exit a' w') → body.wp P Q a w) :
    ∀ (n : Nat) (X : Nat → Nat → Prop) (S S' : St) (o : Out) (c : Cz) (a : Act) (w : World) (Q : Exit → Act → World → Prop), FR X w S c a → evLoop f n S = some (o, S') → (∀ w' c' a', Go_ X w S c w' S' c' a' → Q o.exit a' w') → (Code.loop body).wp P Q a w := by
  intro n X S S' o c a w Q H e hQ
  refine wp_loop_rounds n ?_
  have key : ∀ (n : Nat) (S1 : St) (c1 : Cz) (a1 : Act) (w1 : World), Go_ X w S c w1 S1 c1 a1 → evLoop f n S1 = some (o, S') → Code.rounds P body Q n a1 w1 := by
    intro n
    induction n with
    | zero => intro S1 c1 a1 w1 _ e; simp [evLoop] at e
    | succ n ih =>
      intro S1 c1 a1 w1 g e
      simp only [evLoop, Option.bind_eq_some_iff, Prod.exists] at e
      obtain ⟨o1, S2, e1, e2⟩ := e
      rw [rounds_succ]
      have gn := g.trans g.fr.norm
      refine hb X S1.norm S2 o1 c1 a1 w1 _ gn.fr e1 fun w' c' a' g' => ?_
      cases o1 with
      | nrm => exact ih S2 c' a' w' (gn.trans g') e2
      | ret => simp at e2; obtain ⟨rfl, rfl⟩ := e2; exact hQ w' c' a' (gn.trans g')
      | ex i => simp at e2; obtain ⟨rfl, rfl⟩ := e2; exact hQ w' c' a' (gn.trans g')
  exact key n S c a w (Go_.refl H) e

theorem code_ok [Base] (T : TbOk P tb) (hC : CallOk P call) (hR : ∀ (id : Nat) (ops : Array Oper) (X : Nat → Nat → Prop) (S S' : St) (c : Cz) (a : Act) (w : World) (Q : Exit → Act → World → Prop), FR X w S c a → evRegion P tb md call ops true S = some S' → (∀ w' c' a', Go_ X w S c w' S' c' a' → Q .normal a' w') → (Code.region id ops true).wp P Q a w) (n : Nat) :
    ∀ cd : Code, CodeOk P tb md call n cd
  | .skip, X, S, S', o, c, a, w, Q, H, e, hQ => by
    simp [evC] at e; obtain ⟨rfl, rfl⟩ := e
    exact wp_skip (hQ _ _ _ (Go_.refl H))
  | .region id ops draw, X, S, S', o, c, a, w, Q, H, e, hQ => by
    simp only [evC, Option.map_eq_some_iff] at e
    obtain ⟨S1, e1, e2⟩ := e
    simp at e2; obtain ⟨rfl, rfl⟩ := e2
    cases draw with
    | true => exact hR id ops X S S1 c a w Q H e1 hQ
    | false =>
      simp [evRegion] at e1
      refine wp_region ?_
      have := evOps_ok T hC (k := 0) (Q := Q) H (by simp) e1 hQ
      simpa [List.range_eq_range'] using this
  | .seq x y, X, S, S', o, c, a, w, Q, H, e, hQ => by
    simp only [evC, Option.bind_eq_some_iff, Prod.exists] at e
    obtain ⟨o1, S1, e1, e2⟩ := e
    refine wp_seq (code_ok T hC hR n x X S S1 o1 c a w _ H e1 fun w' c' a' g => ?_)
    cases o1 with
    | nrm =>
      cases hx : x.isReg with
      | true =>
        simp only [sq, hx, cond_true] at e2
        exact code_ok T hC hR n y X S1 S' o c' a' w' Q g.fr e2 fun w'' c'' a'' g' => hQ _ _ _ (g.trans g')
      | false =>
        simp only [sq, hx, cond_false] at e2
        have gn := g.trans g.fr.norm
        exact code_ok T hC hR n y X S1.norm S' o c' a' w' Q gn.fr e2 fun w'' c'' a'' g' => hQ _ _ _ (gn.trans g')
    | ret => simp at e2; obtain ⟨rfl, rfl⟩ := e2; exact hQ _ _ _ g
    | ex i => simp at e2; obtain ⟨rfl, rfl⟩ := e2; exact hQ _ _ _ g
  | .cond cc x y, X, S, S', o, c, a, w, Q, H, e, hQ => by
    simp only [evC] at e
    split at e
    · rename_i t ht
      have hc := val1_ok (H.ev cc) (a := .bool t) (by rw [ht]; rfl)
      refine wp_cond hc ?_
      cases t with
      | true => exact code_ok T hC hR n x X S S' o c a w Q H e hQ
      | false => exact code_ok T hC hR n y X S S' o c a w Q H e hQ
    · cases e
  | .block id x, X, S, S', o, c, a, w, Q, H, e, hQ => by
    simp only [evC, Option.map_eq_some_iff, Prod.exists] at e
    obtain ⟨o1, S1, e1, e2⟩ := e
    simp at e2; obtain ⟨rfl, rfl⟩ := e2
    refine wp_block (code_ok T hC hR n x X S S1 o1 c a w _ H e1 fun w' c' a' g => ?_)
    have := hQ w' c' a' g
    cases o1 with
    | nrm => exact this
    | ret => exact this
    | ex i =>
      simp only [Out.exit, Exit.inBlock, Out.unblock] at this ⊢
      by_cases hi : i = id
      · rw [if_pos hi] at this ⊢; exact this
      · rw [if_neg hi] at this ⊢; exact this
  | .loop x, X, S, S', o, c, a, w, Q, H, e, hQ => by
    simp only [evC] at e
    exact loop_ok (fun X S S' o c a w Q H e hQ => code_ok T hC hR n x X S S' o c a w Q H e hQ) n X S S' o c a w Q H e hQ
  | .exit id, X, S, S', o, c, a, w, Q, H, e, hQ => by
    simp [evC] at e; obtain ⟨rfl, rfl⟩ := e
    exact wp_exit (hQ _ _ _ (Go_.refl H))
  | .ret, X, S, S', o, c, a, w, Q, H, e, hQ => by
    simp [evC] at e; obtain ⟨rfl, rfl⟩ := e
    exact wp_ret (hQ _ _ _ (Go_.refl H))
  | .rangeFunc .., X, S, S', o, c, a, w, Q, H, e, hQ => by simp [evC] at e
  | .scope .., X, S, S', o, c, a, w, Q, H, e, hQ => by simp [evC] at e
  | .label .., X, S, S', o, c, a, w, Q, H, e, hQ => by simp [evC] at e
  | .goto .., X, S, S', o, c, a, w, Q, H, e, hQ => by simp [evC] at e
  | .refuse .., X, S, S', o, c, a, w, Q, H, e, hQ => by simp [evC] at e
end Go.Ev
