/- The evaluator: EvDraw2. -/
import Derived.Test.YtifomiglajcanaaGreatDoorEvDraw
import Derived.Test.YtifomiglajcanaaGreatDoorEvPart
set_option linter.unusedSimpArgs false
set_option linter.unusedVariables false
namespace Go.Ev
set_option linter.unusedVariables false
variable {P : Program} {tb : Tb} {md : Md} {call : CallF} {S S' : St} {h h' h1 h2 : Hp} {ops : Array Oper}

theorem fillV_congr {ρ ρ' : Operand → V} {fs} : ∀ {ps : List (Nat × Operand)} {cs}, (∀ p ∈ ps, ρ p.2 = ρ' p.2) → fillV tb fs ρ ps cs = fillV tb fs ρ' ps cs
  | [], cs, _ => rfl
  | (j, x) :: ps, cs, q => by
    simp only [fillV, q (j, x) (by simp)]
    split
    · split
      · exact fillV_congr fun p hm => q p (by simp [hm])
      · rfl
    · rfl
theorem fillS_congr {ρ ρ' : Operand → V} {e} : ∀ {ps : List (Nat × Operand)} {cs}, (∀ p ∈ ps, ρ p.2 = ρ' p.2) → fillS tb e ρ ps cs = fillS tb e ρ' ps cs
  | [], cs, _ => rfl
  | (j, x) :: ps, cs, q => by
    simp only [fillS, q (j, x) (by simp)]
    split
    · exact fillS_congr fun p hm => q p (by simp [hm])
    · rfl
theorem exec_congr {ρ ρ' : Operand → V} {o : Oper} (q : ∀ x ∈ o.op.operands, ρ x = ρ' x) : exec P tb md call o ρ h = exec P tb md call o ρ' h := by
  obtain ⟨dst, op, type, pos, after, guard⟩ := o
  cases op <;> simp only [Op.operands] at q <;> simp only [exec]
  case build t ps =>
    split
    · rw [fillV_congr fun p hm => q p.2 (by simp only [List.mem_toArray, List.mem_map]; exact ⟨p, hm, rfl⟩)]
    · rfl
  case buildSlice t n ps =>
    split
    · split
      · rw [fillS_congr fun p hm => q p.2 (by simp only [List.mem_toArray, List.mem_map]; exact ⟨p, hm, rfl⟩)]
      · rfl
    · rfl
  case slice t x lo hi mx =>
    have h0 : ρ x = ρ' x := q x (by simp)
    have h1 : lo.map ρ = lo.map ρ' := by cases lo <;> simp_all
    have h2 : hi.map ρ = hi.map ρ' := by cases hi <;> simp_all
    have h3 : mx.map ρ = mx.map ρ' := by cases mx <;> simp_all
    have h4 : optV ρ lo = optV ρ' lo := by cases lo <;> simp_all [optV]
    have h5 : optV ρ hi = optV ρ' hi := by cases hi <;> simp_all [optV]
    rw [h0, h1, h2, h4, h5]
    cases mx with
    | none => rfl
    | some m => simp only [Option.map_some, Option.some.injEq] at h3; simp only [h3]
  case call c =>
    obtain ⟨callee, args, argTypes⟩ := c
    have ha : args.toList.map ρ = args.toList.map ρ' := List.map_congr_left fun x hx => q x (by simp [Call.operands] at hx ⊢; simp [hx])
    cases callee with
    | value f =>
      have hf : ρ f = ρ' f := q f (by simp [Call.operands])
      simp only [hf, ha]
    | invoke r m => rfl
    | builtin b =>
      have key : ∀ x ∈ args.toList, ρ x = ρ' x := fun x hx => q x (by simp [Call.operands] at hx ⊢; simp [hx])
      cases b <;> simp only
      case len =>
        generalize args.toList = al at *
        split
        · rename_i t _ _; rw [key t (by simp)]
        · rfl
      case append =>
        generalize args.toList = al at *
        split
        · rename_i x y _ _ _; rw [key x (by simp), key y (by simp)]
        · rfl
  all_goals (first | rfl | (simp_all; done))

/-! ### Two steps that stand apart -/
theorem put_env {i t : Nat} {v : V} {h : Hp} (q : t ≠ i) : (S.put (some i) v h).env t = S.env t := by
  simp only [St.put_def]
  split
  · exact if_neg q
  · rfl
theorem ev_put {d : Option Nat} {v : V} {h : Hp} {o : Oper} (hd : ∀ i, d = some i → i ∉ o.looksAt ops) {x : Operand} (hx : x ∈ o.op.operands) : (S.put d v h).ev x = S.ev x := by
  cases x with
  | tmp t =>
    cases d with
    | none => rfl
    | some i =>
      have : t ≠ i := fun e => hd i rfl (by subst e; exact List.mem_append_left _ (List.mem_filterMap.2 ⟨.tmp t, by simpa using hx, rfl⟩))
      exact put_env this
  | _ => rfl
theorem wantedV_put {d : Option Nat} {v : V} {h : Hp} {o : Oper} (hd : ∀ i, d = some i → i ∉ o.looksAt ops) : wantedV ops (S.put d v h).env o = wantedV ops S.env o := by
  unfold wantedV
  cases hg : o.guard with
  | none => rfl
  | some gw =>
    obtain ⟨g, want⟩ := gw
    cases ht : (ops[g]?).bind (·.dst) with
    | none => simp only [hg, ht]
    | some t =>
      simp only [ht]
      cases d with
      | none => rfl
      | some i =>
        have : t ≠ i := fun e => hd i rfl (by subst e; simp [Oper.looksAt, hg, ht])
        rw [put_env this]
theorem put_comm {x y : Option Nat} {v uu : V} {h1 h2 h3 : Hp} (q : ∀ d, x = some d → y ≠ some d) : (S.put x v h1).put y uu h3 = (S.put y uu h2).put x v h3 := by
  cases x with
  | none => cases y <;> rfl
  | some d =>
    cases y with
    | none => rfl
    | some e =>
      have hne : d ≠ e := fun he => q d rfl (he ▸ rfl)
      simp only [St.put_def]
      congr 1
      by_cases q1 : d < S.n <;> by_cases q2 : e < S.n <;> simp only [q1, q2, if_true, if_false]
      funext j
      by_cases a : j = e <;> by_cases b : j = d <;> simp only [a, b, if_true, if_false]
      · exact absurd (b.symm.trans a) hne
      all_goals simp [hne, hne.symm]

/-- One operation's effect, told without the frame. -/
def stepV (P : Program) (tb : Tb) (md : Md) (call : CallF) (ops : Array Oper) (o : Oper) (S : St) (h : Hp) : Option (V × Hp) :=
  (wantedV ops S.env o).bind fun b => if b then exec P tb md call o S.ev h else some (.tup [], h)
theorem evOp_step {o : Oper} : evOp P tb md call ops o S = (stepV P tb md call ops o S S.h).map fun r => S.put o.dst r.1 r.2 := by
  unfold evOp stepV
  cases wantedV ops S.env o with
  | none => rfl
  | some b => cases b <;> rfl
theorem stepV_put {d : Option Nat} {v : V} {h0 h : Hp} {o : Oper} (hd : ∀ i, d = some i → i ∉ o.looksAt ops) : stepV P tb md call ops o (S.put d v h0) h = stepV P tb md call ops o S h := by
  unfold stepV
  rw [wantedV_put hd]
  congr 1; funext b
  split
  · exact exec_congr fun x hx => ev_put hd hx
  · rfl
theorem stepV_0 {o : Oper} (hc : cls tb md o = 0) {v : V} (e : stepV P tb md call ops o S h = some (v, h1)) : h1 = h ∧ ∀ h', stepV P tb md call ops o S h' = some (v, h') := by
  unfold stepV at e ⊢
  cases hw : wantedV ops S.env o with
  | none => simp [hw] at e
  | some b =>
    simp only [hw, Option.bind_some] at e ⊢
    cases b with
    | false => simp at e ⊢; exact ⟨e.2.symm, e.1⟩
    | true => simp only [if_true] at e ⊢; exact exec_0 hc e
theorem stepV_1 (T : TbOk P tb) {o : Oper} (hc : cls tb md o = 1) : ∃ d, o.dst = some d ∧ Step1 d (toksOf S.ev o) (stepV P tb md call ops o S) := by
  obtain ⟨d, hd, q⟩ := exec_1 (P := P) (md := md) (call := call) T (ρ := S.ev) (fun g => rfl) hc
  refine ⟨d, hd, ?_⟩
  unfold stepV
  cases hw : wantedV ops S.env o with
  | none => exact Step1.none
  | some b => cases b with
    | true => exact q
    | false => exact Step1.loc (LocD.pure _)

theorem stepV_read {o : Oper} (hr : isRead o = true) : RdOk (toksOf S.ev o) (stepV P tb md call ops o S) := by
  unfold stepV
  cases hw : wantedV ops S.env o with
  | none => exact RdOk.none
  | some b => cases b with
    | true => exact exec_read hr
    | false => intro h v h1 e; cases e; exact ⟨rfl, fun _ _ => rfl⟩
theorem stepV_foot {o : Oper} (hf : isFoot md o = true) {v : V} (e : stepV P tb md call ops o S h = some (v, h1)) {s' : Nat} (q1 : s' ∉ toksOf S.ev o) (q2 : ∀ d, o.dst = some d → s' ≠ d) : h1 s' = h s' := by
  unfold stepV at e
  cases hw : wantedV ops S.env o with
  | none => rw [hw] at e; cases e
  | some b =>
    rw [hw] at e
    cases b with
    | true => exact exec_foot (fun g => rfl) hf e q1 q2
    | false => cases e; rfl
/-- What a call that keeps some cells leaves of the boxes. -/
def BoxK (d : Option Nat) (ks : List Nat) (h h1 : Hp) : Prop := ∀ s k g' cs, k < 1000 → (∀ i, d = some i → s ≠ i) → h.get s k g' = some (.box cs) → ∃ cs2, h1.get s k g' = some (.box cs2) ∧ cs2.length = cs.length ∧ ∀ o, ks.contains o = true → cs2[o]? = cs[o]?
theorem stepV_keep {o : Oper} (hk : keepOf md o ≠ []) {v : V} (e : stepV P tb md call ops o S h = some (v, h1)) : BoxK o.dst (keepOf md o) h h1 ∧ (partOf md o = true → BoxK o.dst (keepOf md o) h1 h) := by
  unfold stepV at e
  cases hw : wantedV ops S.env o with
  | none => rw [hw] at e; cases e
  | some b =>
    rw [hw] at e
    cases b with
    | false => cases e; exact ⟨fun s k g' cs _ _ q => ⟨cs, q, rfl, fun _ _ => rfl⟩, fun _ s k g' cs _ _ q => ⟨cs, q, rfl, fun _ _ => rfl⟩⟩
    | true =>
      change exec P tb md call o S.ev h = some (v, h1) at e
      obtain ⟨dst, op, type, pos, after, guard⟩ := o
      unfold keepOf at hk ⊢
      unfold partOf
      cases op <;> simp only at hk ⊢
      case call c =>
        obtain ⟨callee, args, argTypes⟩ := c
        cases callee with
        | invoke r m => exact absurd rfl hk
        | builtin b => exact absurd rfl hk
        | value f =>
        cases f with
        | tmp t => exact absurd rfl hk
        | const t => exact absurd rfl hk
        | global t => exact absurd rfl hk
        | func g =>
          simp only at hk ⊢
          have hd : dst.isSome = true := by
            cases hd : dst.isSome with
            | true => rfl
            | false => rw [hd] at hk; exact absurd rfl hk
          rw [hd] at hk
          simp only [hd, cond_true] at hk ⊢
          have hf : S.ev (.func g) = .d (.p (.func (.func g) #[] #[])) := rfl
          simp only [exec, hf] at e
          split at e
          case isFalse => cases e
          cases hp : isPart md g argTypes.toList with
          | true =>
            rw [hp] at hk
            simp only [cond_true] at hk ⊢
            have hp' := hp
            unfold isPart at hp'
            simp only [Bool.and_eq_true, Bool.not_eq_true'] at hp'
            rw [hp'.1.1.1, hp'.1.1.2] at e
            simp only [cond_true, Bool.false_or] at e
            cases hh : homedAll h (args.toList.map S.ev) && outOk tb (outL md g) (fixTys md g argTypes.toList) (args.toList.map S.ev) with
            | false => rw [hh] at e; cases e
            | true =>
              rw [hh, cond_true] at e
              obtain ⟨h1', h2'⟩ := (Bool.and_eq_true _ _).mp hh
              have := callV_part hk h1' h2' e
              exact ⟨fun s k g' cs hk' hd' => (this s k g' hk' hd').1 cs, fun _ s k g' cs hk' hd' => (this s k g' hk' hd').2 cs⟩
          | false =>
            rw [hp] at hk
            simp only [cond_false] at hk ⊢
            have hke : (keepL md g).isEmpty = false := by
              cases hl : keepL md g with
              | nil => exact absurd hl hk
              | cons a l => rfl
            rw [hke] at e
            simp only [cond_false] at e
            exact ⟨fun s k g' cs hk' _ => keepV_box e s k g' cs hk', fun z => by cases z⟩
      all_goals exact absurd rfl hk
theorem inBox_spec {x : V} (h : x.inBox = true) : ∃ s k g o, x = .ptr s k g o ∧ k < 1000 := by
  unfold V.inBox at h
  split at h
  · rename_i s k g o
    exact ⟨s, k, g, o, rfl, by have := Nat.le_of_ble_eq_true h; omega⟩
  · cases h
theorem alive_keep {d : Option Nat} {ks : List Nat} {h1 : Hp} (q : BoxK d ks h h1) {x : V} (hx : x.inBox = true) (hd : ∀ s ∈ x.toks, ∀ i, d = some i → s ≠ i) (ha : alive h x = true) : alive h1 x = true := by
  obtain ⟨s, k, g, o, rfl, hk⟩ := inBox_spec hx
  unfold alive at ha ⊢
  simp only at ha ⊢
  split at ha
  · rename_i cs hg
    obtain ⟨cs2, e, _⟩ := q s k g cs hk (hd s (by simp [V.toks, V.tok1])) hg
    rw [e]
  · cases ha
theorem stepV_rd {d : Option Nat} {ks : List Nat} {h1 : Hp} (q : BoxK d ks h h1) {o : Oper} (hr : rdK tb S.ev o ks = true) (hd : ∀ s ∈ toksOf S.ev o, ∀ i, d = some i → s ≠ i) {v : V} {h2 : Hp} (e : stepV P tb md call ops o S h = some (v, h2)) : h2 = h ∧ stepV P tb md call ops o S h1 = some (v, h1) := by
  unfold stepV at e ⊢
  cases hw : wantedV ops S.env o with
  | none => rw [hw] at e; cases e
  | some b =>
    rw [hw] at e
    cases b with
    | false => cases e; exact ⟨rfl, rfl⟩
    | true =>
      change exec P tb md call o S.ev h = some (v, h2) at e
      show _ ∧ exec P tb md call o S.ev h1 = some (v, h1)
      have hm := @mem_toksOf S.ev o
      generalize toksOf S.ev o = F at *
      obtain ⟨dst, op, type, pos, after, guard⟩ := o
      unfold rdK at hr
      cases op <;> simp only at hr
      case load t a =>
        simp only [exec, Option.map_eq_some_iff] at e ⊢
        obtain ⟨v', e1, e2⟩ := e
        cases e2
        refine ⟨rfl, v, ?_, rfl⟩
        simp only [Bool.and_eq_true] at hr
        obtain ⟨hk, hagg⟩ := hr
        have hagg : isAgg tb t = false := by simpa using hagg
        unfold V.keptIn at hk
        split at hk
        · rename_i s k g o ha
          simp only [Bool.and_eq_true] at hk
          have hk1 : k < 1000 := by have := Nat.le_of_ble_eq_true hk.1; omega
          rw [ha] at e1 ⊢
          unfold loadV at e1 ⊢
          simp only at e1 ⊢
          split at e1
          · rename_i cs hg
            obtain ⟨cs2, g1, g2, g3⟩ := q s k g cs hk1 (hd s (hm (x := a) (by simp [Op.operands]) s (by rw [ha]; simp [V.toks, V.tok1]))) hg
            rw [g1]
            unfold partV at e1 ⊢
            rw [hagg] at e1 ⊢
            simp only [Bool.false_eq_true, if_false] at e1 ⊢
            rw [g2, g3 o hk.2]
            exact e1
          · cases e1
        · cases hk
      case nilCheck x =>
        simp only [exec] at e ⊢
        split at e
        · rename_i ha
          cases e
          rw [if_pos (alive_keep q hr (fun s hs => hd s (hm (x := x) (by simp [Op.operands]) s hs)) ha)]
          exact ⟨rfl, rfl⟩
        · cases e
      case fieldAddr st x f =>
        simp only [exec] at e ⊢
        split at e
        · split at e
          · split at e
            · cases e
            · rename_i hz
              split at e
              · rename_i ha
                cases e
                refine ⟨rfl, ?_⟩
                simp only [if_neg hz, if_pos (alive_keep q hr (fun s hs => hd s (hm (x := x) (by simp [Op.operands]) s hs)) ha)]
              · cases e
          · cases e
        · cases e
      all_goals cases hr
theorem stepV_onD {o : Oper} (hf : isFootC md o = true) {d : Nat} {N : Nat → Nat × Option Ob} (q1 : d ∉ toksOf S.ev o) (q2 : ∀ i, o.dst = some i → i ≠ d) : stepV P tb md call ops o S (onD d N h) = (stepV P tb md call ops o S h).map (lift d N) := by
  have hm := @mem_toksOf S.ev o
  unfold stepV
  cases wantedV ops S.env o with
  | none => rfl
  | some b =>
    cases b with
    | false => rfl
    | true =>
      show exec P tb md call o S.ev (onD d N h) = (exec P tb md call o S.ev h).map (lift d N)
      generalize toksOf S.ev o = F at *
      obtain ⟨dst, op, type, pos, after, guard⟩ := o
      unfold isFootC at hf
      cases op <;> simp only at hf
      case call c =>
        obtain ⟨callee, args, argTypes⟩ := c
        cases callee with
        | invoke r m => cases hf
        | builtin b => cases hf
        | value f =>
        cases f with
        | tmp t => cases hf
        | const t => cases hf
        | global t => cases hf
        | func g =>
          simp only [Bool.and_eq_true, Bool.not_eq_true'] at hf
          have hfn : S.ev (.func g) = .d (.p (.func (.func g) #[] #[])) := rfl
          have ht : ∀ v ∈ args.toList.map S.ev, d ∉ v.toks := fun v hv => by
            obtain ⟨x, hx, rfl⟩ := List.mem_map.1 hv
            exact fun hs => q1 (hm (x := x) (by simp only [Op.operands, Call.operands, Array.toList_append, List.mem_append]; exact .inr hx) _ hs)
          simp only [exec, hfn, hf.1, hf.2, cond_true, Bool.false_or]
          split
          · have hho : homedAll (onD d N h) (args.toList.map S.ev) = homedAll h (args.toList.map S.ev) := by
              cases hl : args.toList.map S.ev with
              | nil => rfl
              | cons v vs =>
                have hv := ht v (by rw [hl]; simp)
                simp only [homedAll]
                congr 1
                cases v <;> try rfl
                rename_i s k g o
                have hs : s ≠ d := fun e => hv (by simp [V.toks, V.tok1, e])
                simp only [V.homed, get_onD hs]
            rw [hho]
            cases hh : homedAll h (args.toList.map S.ev) with
            | false => rfl
            | true =>
              cases outOk tb (outL md g) (fixTys md g argTypes.toList) (args.toList.map S.ev) with
              | false => rfl
              | true => exact callV_onD ht hh q2
          · rfl
      all_goals cases hf
theorem footC_foot {o : Oper} (hf : isFootC md o = true) {v : V} (e : stepV P tb md call ops o S h = some (v, h1)) {d : Nat} (q1 : d ∉ toksOf S.ev o) (q2 : ∀ i, o.dst = some i → i ≠ d) : h1 d = h d := by
  have := stepV_onD (P := P) (tb := tb) (call := call) (ops := ops) (S := S) (h := h) hf (N := h d) q1 q2
  rw [onD_self, e] at this
  simp only [Option.map_some, lift, Option.some.injEq, Prod.mk.injEq] at this
  rw [this.2, onD_at]
theorem stepV_alloc (T : TbOk P tb) {o : Oper} (ha : isAlloc o = true) : ∃ d, o.dst = some d ∧ LocD d (stepV P tb md call ops o S) := by
  have hc : cls tb md o = 1 := by
    obtain ⟨dst, op, type, pos, after, guard⟩ := o
    unfold isAlloc at ha
    cases op <;> simp only at ha
    case alloc e => simp only [cls]; rw [if_pos ha]
    all_goals cases ha
  have ht : toksOf S.ev o = [] := by
    obtain ⟨dst, op, type, pos, after, guard⟩ := o
    unfold isAlloc at ha
    cases op <;> simp only at ha
    case alloc e => rfl
    all_goals cases ha
  obtain ⟨d, hd, q⟩ := stepV_1 (P := P) (md := md) (call := call) (ops := ops) (S := S) T hc
  rw [ht] at q
  refine ⟨d, hd, fun h x h1 e => ?_⟩
  obtain ⟨fz, N, x1, rfl, x3⟩ := q _ _ _ e
  have nf : ∀ h : Hp, fzs fz h = h := fun h => by
    funext s k
    cases hq : fz s k with
    | true => have := x1 _ _ hq; cases this
    | false => simp [fzs, hq]
  have nf := nf
  refine ⟨?_, fun h' e' => ?_⟩
  · rw [nf, onD_at]
  · have := x3 h' e' (fun s hs => by cases hs)
    rw [nf] at this
    rw [nf, onD_at]; exact this
/-- Two that may be done either way about. -/
def MayTurn (tb : Tb) (md : Md) (ρ : Operand → V) (x y : Oper) : Prop :=
  cls tb md x = 0 ∨ cls tb md y = 0 ∨
  (cls tb md x = 1 ∧ cls tb md y = 1 ∧ (∀ d, y.dst = some d → d ∉ toksOf ρ x) ∧ ∀ d, x.dst = some d → d ∉ toksOf ρ y) ∨
  (isRead x = true ∧ isFoot md y = true ∧ ∀ s ∈ toksOf ρ x, s ∉ toksOf ρ y ∧ ∀ d, y.dst = some d → s ≠ d) ∨
  (isRead y = true ∧ isFoot md x = true ∧ ∀ s ∈ toksOf ρ y, s ∉ toksOf ρ x ∧ ∀ d, x.dst = some d → s ≠ d)
    ∨ (keepOf md y ≠ [] ∧ rdK tb ρ x (keepOf md y) = true ∧ ∀ s ∈ toksOf ρ x, ∀ i, y.dst = some i → s ≠ i) ∨ (keepOf md x ≠ [] ∧ partOf md x = true ∧ rdK tb ρ y (keepOf md x) = true ∧ ∀ s ∈ toksOf ρ y, ∀ i, x.dst = some i → s ≠ i) ∨
  (isFootC md x = true ∧ isAlloc y = true ∧ ∀ d, y.dst = some d → d ∉ toksOf ρ x) ∨ (isAlloc x = true ∧ isFootC md y = true ∧ ∀ d, x.dst = some d → d ∉ toksOf ρ y)
theorem swap (T : TbOk P tb) {x y : Oper} (h1 : x.apart ops y = true) (h2 : y.apart ops x = true) (hc : MayTurn tb md S.ev x y) {S1 S2 : St}
    (e1 : evOp P tb md call ops x S = some S1) (e2 : evOp P tb md call ops y S1 = some S2) :
    ∃ S1', evOp P tb md call ops y S = some S1' ∧ evOp P tb md call ops x S1' = some S2 := by
  obtain ⟨a1, a2, a3⟩ := Oper.apart_spec h1
  simp only [evOp_step, Option.map_eq_some_iff, Prod.exists] at e1 e2 ⊢
  obtain ⟨v, hv, e1, rfl⟩ := e1
  obtain ⟨u', hu, e2, rfl⟩ := e2
  rw [stepV_put a1] at e2
  have fin : ∀ hq, stepV P tb md call ops y S S.h = some (u', hq) → stepV P tb md call ops x S hq = some (v, hu) →
      ∃ S1', (∃ a b, stepV P tb md call ops y S S.h = some (a, b) ∧ S.put y.dst a b = S1') ∧ ∃ a b, stepV P tb md call ops x S1' S1'.h = some (a, b) ∧ S1'.put x.dst a b = (S.put x.dst v hv).put y.dst u' hu := fun hq q1 q2 => by
    refine ⟨_, ⟨u', hq, q1, rfl⟩, v, hu, ?_, ?_⟩
    · rw [stepV_put a3]; exact q2
    · exact (put_comm a2).symm
  change stepV P tb md call ops y S hv = some (u', hu) at e2
  rcases hc with c0 | c1 | ⟨cx, cy, fx, fy⟩ | ⟨rx, fy, dj⟩ | ⟨ry, fx, dj⟩ | ⟨ky, rk, dj⟩ | ⟨kx, px, rk, dj⟩ | ⟨fx, ay, dj⟩ | ⟨ax, fy, dj⟩
  · obtain ⟨rfl, q⟩ := stepV_0 c0 e1
    exact fin hu e2 (q _)
  · obtain ⟨rfl, q⟩ := stepV_0 c1 e2
    exact fin _ (q _) e1
  rotate_left
  · obtain ⟨rfl, q⟩ := stepV_read rx _ _ _ e1
    exact fin hu e2 (q _ fun s hs k => by rw [stepV_foot fy e2 (dj s hs).1 (dj s hs).2])
  · obtain ⟨rfl, q⟩ := stepV_read ry _ _ _ e2
    exact fin _ (q _ fun s hs k => by rw [stepV_foot fx e1 (dj s hs).1 (dj s hs).2]) e1
  · obtain ⟨e0, _⟩ := stepV_rd (d := none) (h1 := S.h) (fun s k g' cs _ _ q => ⟨cs, q, rfl, fun _ _ => rfl⟩) rk (fun _ _ _ z => by cases z) e1
    subst e0
    exact fin hu e2 (stepV_rd (stepV_keep ky e2).1 rk dj e1).2
  · obtain ⟨e0, e3⟩ := stepV_rd ((stepV_keep kx e1).2 px) rk dj e2
    subst e0
    exact fin _ e3 e1
  · obtain ⟨dy, hdy, Y⟩ := stepV_alloc (P := P) (md := md) (call := call) (ops := ops) (S := S) T ay
    obtain ⟨y1, y2⟩ := Y _ _ _ e2
    have hne : ∀ i, x.dst = some i → i ≠ dy := fun i hi e => a2 i hi (by rw [hdy, e])
    have hs : hv dy = S.h dy := footC_foot fx e1 (dj dy hdy) hne
    have r1 := y2 S.h hs.symm
    refine fin _ r1 ?_
    rw [stepV_onD fx (dj dy hdy) hne, e1]
    simp only [Option.map_some, lift]
    rw [← y1]
  · obtain ⟨dx, hdx, X⟩ := stepV_alloc (P := P) (md := md) (call := call) (ops := ops) (S := S) T ax
    obtain ⟨x1, x2⟩ := X _ _ _ e1
    have hne : ∀ i, y.dst = some i → i ≠ dx := fun i hi e => a2 dx hdx (by rw [hi, e])
    rw [x1, stepV_onD fy (dj dx hdx) hne] at e2
    simp only [Option.map_eq_some_iff, Prod.exists, lift, Prod.mk.injEq] at e2
    obtain ⟨u2, h2, e2, rfl, rfl⟩ := e2
    refine fin h2 e2 ?_
    exact x2 h2 (footC_foot fy e2 (dj dx hdx) hne)
  have cc : cls tb md x = 1 ∧ cls tb md y = 1 := ⟨cx, cy⟩
  obtain ⟨dx, hdx, X⟩ := stepV_1 (P := P) (md := md) (call := call) (ops := ops) (S := S) T cc.1
  obtain ⟨dy, hdy, Y⟩ := stepV_1 (P := P) (md := md) (call := call) (ops := ops) (S := S) T cc.2
  have hxy : dx ≠ dy := fun e => a2 dx hdx (by rw [hdy, e])
  have nx : dy ∉ toksOf S.ev x := fx dy hdy
  have ny : dx ∉ toksOf S.ev y := fy dx hdx
  obtain ⟨fzx, Nx, x1, rfl, x3⟩ := X _ _ _ e1
  obtain ⟨fzy, Ny, y1, rfl, y3⟩ := Y _ _ _ e2
  have nofx : ∀ k, fzx dy k = false := fun k => by cases q : fzx dy k with
    | false => rfl
    | true => exact absurd (x1 _ _ q) nx
  have nofy : ∀ k, fzy dx k = false := fun k => by cases q : fzy dx k with
    | false => rfl
    | true => exact absurd (y1 _ _ q) ny
  have r1 := y3 S.h (by funext k; simp [onD, fzs, hxy.symm, nofx]) (fun s hs k => by
    have : s ≠ dx := fun e => ny (e ▸ hs)
    simp only [onD, if_neg this, frz_fzs])
  have r2 := x3 (onD dy Ny (fzs fzy S.h)) (by funext k; simp [onD, fzs, hxy, nofy]) (fun s hs k => by
    have : s ≠ dy := fun e => nx (e ▸ hs)
    simp only [onD, if_neg this, frz_fzs])
  refine fin _ r1 (r2.trans ?_)
  congr 2
  funext s k
  simp only [onD, fzs]
  by_cases q1 : s = dx
  · subst q1; simp [hxy, nofy]
  · by_cases q2 : s = dy
    · subst q2; simp [hxy.symm, nofx]
    · simp only [q1, q2, if_false]
      by_cases b1 : fzx s k = true <;> by_cases b2 : fzy s k = true <;> simp [b1, b2]

/-! ### What stands before what -/
variable {bf : List Nat}
theorem hasM_eq (m i : Nat) : hasM m i = m.testBit i := by
  have e : Nat.land (Nat.shiftRight m i) 1 = m / 2 ^ i % 2 := by
    show (m >>> i) &&& 1 = _
    rw [Nat.and_one_is_mod, Nat.shiftRight_eq_div_pow]
  rw [Nat.testBit_eq_decide_div_mod_eq, hasM, e]
  cases h : decide (m / 2 ^ i % 2 = 1) with
  | true => rw [of_decide_eq_true h]; rfl
  | false =>
    have := of_decide_eq_false h
    rw [show m / 2 ^ i % 2 = 0 by omega]; rfl
theorem hasM_lor (a b i : Nat) : hasM (Nat.lor a b) i = (hasM a i || hasM b i) := by
  rw [hasM_eq, hasM_eq, hasM_eq]
  exact Nat.testBit_or a b i
theorem hasM_zero (i : Nat) : hasM 0 i = false := by rw [hasM_eq, Nat.zero_testBit]
theorem hasM_bit {j i : Nat} (h : hasM (Nat.shiftLeft 1 j) i = true) : i = j := by
  rw [hasM_eq] at h
  have e : Nat.shiftLeft 1 j = 2 ^ j := by
    show 1 <<< j = _
    rw [Nat.shiftLeft_eq, Nat.one_mul]
  rw [e, Nat.testBit_two_pow] at h
  exact (of_decide_eq_true h).symm
theorem befM_spec (acc : List Nat) (a : Nat) : ∀ js : List Nat, hasM (befM acc js) a = true → ∃ m ∈ js, a = m ∨ hasM (acc.getD m 0) a = true
  | [], h => by rw [befM, hasM_zero] at h; cases h
  | j :: js, h => by
    rw [befM, hasM_lor, hasM_lor, Bool.or_eq_true, Bool.or_eq_true] at h
    rcases h with (h | h) | h
    · exact ⟨j, by simp, .inl (hasM_bit h)⟩
    · exact ⟨j, by simp, .inr h⟩
    · obtain ⟨m, hm, q⟩ := befM_spec acc a js h
      exact ⟨m, by simp [hm], q⟩
theorem befores_length : ∀ (os : List Oper) (acc : List Nat), (befores os acc).length = acc.length + os.length
  | [], acc => rfl
  | o :: os, acc => by rw [befores, befores_length os]; simp; omega
theorem befores_old : ∀ (os : List Oper) (acc : List Nat) (j : Nat), j < acc.length → (befores os acc).getD j 0 = acc.getD j 0
  | [], acc, j, h => rfl
  | o :: os, acc, j, h => by
    rw [befores, befores_old os _ j (by simp; omega)]
    simp [List.getD_eq_getElem?_getD, List.getElem?_append, h]
theorem befores_new : ∀ (os : List Oper) (acc : List Nat) (i : Nat) (o : Oper), os[i]? = some o →
    ∀ a, hasM ((befores os acc).getD (acc.length + i) 0) a = true → ∃ m ∈ binds1 o, a = m ∨ (m < acc.length + i ∧ hasM ((befores os acc).getD m 0) a = true)
  | [], acc, i, o, h, a, ha => by simp at h
  | p :: os, acc, 0, o, h, a, ha => by
    simp at h; subst h
    have e : (befores (p :: os) acc).getD (acc.length + 0) 0 = befM acc (binds1 p) := by
      rw [befores, befores_old os _ _ (by simp)]
      simp [List.getD_eq_getElem?_getD]
    rw [e] at ha
    obtain ⟨m, hm, q⟩ := befM_spec _ _ _ ha
    refine ⟨m, hm, ?_⟩
    rcases q with q | q
    · exact .inl q
    · refine .inr ?_
      by_cases hl : m < acc.length
      · exact ⟨by omega, by rw [befores_old _ _ m hl]; exact q⟩
      · rw [List.getD_eq_getElem?_getD, List.getElem?_eq_none (by omega)] at q
        rw [Option.getD_none, hasM_zero] at q
        cases q
  | p :: os, acc, i + 1, o, h, a, ha => by
    simp at h
    have := befores_new os (acc ++ [befM acc (binds1 p)]) i o h a (by
      rw [befores] at ha
      rw [show (acc ++ [befM acc (binds1 p)]).length + i = acc.length + (i + 1) from by simp; omega]
      exact ha)
    obtain ⟨m, hm, q⟩ := this
    refine ⟨m, hm, q.imp _root_.id fun q => ⟨by simp at q; omega, by rw [befores]; exact q.2⟩⟩

/-- What an order to draw from must be. -/
structure DrawR (tb : Tb) (md : Md) (ops : Array Oper) : Prop where
  back : ∀ j o, ops[j]? = some o → ∀ m ∈ binds1 o, m < j
  pair : ∀ j i, j < ops.size → i < j → pairOk tb md ops (befores ops.toList []) i j = true
theorem drawOk_spec (h : drawOk tb md ops = true) : DrawR tb md ops := by
  simp only [drawOk, List.all_eq_true, List.mem_range, Bool.and_eq_true] at h
  refine ⟨fun j o e m hm => ?_, fun j i hj hi => (h j hj).2 i hi⟩
  have hj := (Array.getElem?_eq_some_iff.1 e).1
  have := (h j hj).1
  simp only [e, List.all_eq_true, decide_eq_true_eq] at this
  exact this m hm
theorem DrawR.lt (H : DrawR tb md ops) : ∀ (j a : Nat), j < ops.size → hasM ((befores ops.toList []).getD j 0) a = true → a < j := by
  intro j
  induction j using Nat.strongRecOn with
  | ind j ih =>
    intro a hj ha
    obtain ⟨o, ho⟩ : ∃ o, ops[j]? = some o := ⟨_, Array.getElem?_eq_getElem hj⟩
    obtain ⟨m, hm, q⟩ := befores_new ops.toList [] j o (by simpa using ho) a (by simpa using ha)
    have := H.back j o ho m hm
    rcases q with rfl | ⟨q1, q2⟩
    · exact this
    · have := ih m this a (by omega) q2; omega
theorem binds1_mem {o : Oper} {m : Nat} : m ∈ binds1 o ↔ ∃ e ∈ o.after, Region.binds .any e = true ∧ e.on = m := by
  simp [binds1, and_assoc]
/-- Who is listed has all before it listed. -/
def Down (ops : Array Oper) (listed : Array Bool) : Prop := ∀ j o, ops[j]? = some o → listed.getD j true = true → ∀ m ∈ binds1 o, listed.getD m true = true
theorem DrawR.listed (H : DrawR tb md ops) {listed : Array Bool} (D : Down ops listed) : ∀ (j a : Nat) (o : Oper), ops[j]? = some o → (∀ m ∈ binds1 o, listed.getD m true = true) → hasM ((befores ops.toList []).getD j 0) a = true → listed.getD a true = true := by
  intro j
  induction j using Nat.strongRecOn with
  | ind j ih =>
    intro a o ho hl ha
    obtain ⟨m, hm, q⟩ := befores_new ops.toList [] j o (by simpa using ho) a (by simpa using ha)
    have hmj := H.back j o ho m hm
    rcases q with rfl | ⟨q1, q2⟩
    · exact hl a hm
    · obtain ⟨p, hp⟩ : ∃ p, ops[m]? = some p := ⟨_, Array.getElem?_eq_getElem (by have := (Array.getElem?_eq_some_iff.1 ho).1; omega)⟩
      exact ih m hmj a p hp (D m p hp (hl m hm)) q2
end Go.Ev
