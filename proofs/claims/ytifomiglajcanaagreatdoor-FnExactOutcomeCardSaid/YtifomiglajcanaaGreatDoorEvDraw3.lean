/- The evaluator: EvDraw3. -/
import Derived.Test.YtifomiglajcanaaGreatDoorEvDraw2
set_option linter.unusedSimpArgs false
set_option linter.unusedVariables false
namespace Go.Ev
set_option linter.unusedVariables false
variable {P : Program} {tb : Tb} {md : Md} {call : CallF} {X : Nat → Nat → Prop} {w w' : World} {S S' S1 S2 : St} {h : Hp} {c c' : Cz} {a a' : Act} {ops : Array Oper}

theorem Mv.drew [Base] (H : HR X w h c) : Mv X (fun _ _ => False) w h c w.drew h c :=
  Mv.make H (Fr.drew _ w) (fun _ _ _ x => x.elim) ⟨fun _ _ => Nat.le_refl _, fun s k ob hb _ e => ⟨rfl, ob, hb, e, rfl⟩, fun s k ob hb _ e => ⟨rfl, ob, hb, e⟩⟩ (fun _ _ => True)
    (fun s k ob _ e => ⟨e, rfl, fun _ _ _ x => x⟩) (fun s k ob g o q => absurd trivial q) (fun s k s' k' ob ob' g o q => absurd trivial q) (fun _ s k ob q => absurd trivial q)
theorem FR.drew [Base] (H : FR X w S c a) : Go_ X w S c w.drew S c a :=
  .of ⟨(Mv.drew H.hr).hr, fun i => (Mv.drew H.hr).rv (H.env i), H.size, H.defers⟩ (Mv.drew H.hr).all rfl

def chk (tb : Tb) (md : Md) (ops : Array Oper) (o : Oper) (i : Nat) (S : St) : Bool := cls tb md o == 0 || (freeOf S.ev o (clash tb md ops (befores ops.toList []) i) && within tb S.ev o (claims md ops (befores ops.toList []) i))
def evL (P : Program) (tb : Tb) (md : Md) (call : CallF) (ops : Array Oper) : List Nat → St → Option St
  | [], S => some S
  | i :: L, S => match ops[i]? with
    | some o => if chk tb md ops o i S then (evOp P tb md call ops o S).bind (evL P tb md call ops L) else none
    | none => none
theorem evOpsD_evL : ∀ (os : List Oper) (j : Nat) (S : St), ops.toList.drop j = os → evOpsD P tb md call ops (befores ops.toList []) j os S = evL P tb md call ops (List.range' j os.length) S
  | [], j, S, _ => rfl
  | o :: os, j, S, hd => by
    have ho : ops[j]? = some o := by
      have := congrArg (·[0]?) hd
      simp at this; simpa using this
    have hd' : ops.toList.drop (j + 1) = os := by
      have := congrArg List.tail hd
      simpa using this
    simp only [evOpsD, List.length_cons, List.range'_succ, evL, ho]
    change (if chk tb md ops o j S = true then _ else _) = _
    by_cases q : chk tb md ops o j S = true
    · rw [if_pos q, if_pos q]
      cases evOp P tb md call ops o S with
      | none => rfl
      | some S1 => exact evOpsD_evL os (j + 1) S1 hd'
    · rw [if_neg q, if_neg q]

/-- Two that stand in no order. -/
def Free2 (tb : Tb) (md : Md) (ops : Array Oper) (i j : Nat) : Prop := ∀ x y, ops[i]? = some x → ops[j]? = some y →
  x.apart ops y = true ∧ y.apart ops x = true ∧ (compat (cls tb md x) (cls tb md y) || apartR md ops x y || apartR md ops y x || apartK md x y || (apartK md y x && partOf md x) || (isFootC md x && isAlloc y) || (isFootC md y && isAlloc x)) = true ∧
  (cls tb md y ≠ 0 → ∀ d, y.dst = some d → d ∈ clash tb md ops (befores ops.toList []) i) ∧ (cls tb md x ≠ 0 → ∀ d, x.dst = some d → d ∈ clash tb md ops (befores ops.toList []) j) ∧
  (isRead x = true → isFoot md y = true → (∀ d ∈ claimOf md ops x, d ∈ clash tb md ops (befores ops.toList []) j) ∧ ∀ ρ : Operand → V, within tb ρ x (claims md ops (befores ops.toList []) i) = true → ∀ s ∈ toksOf ρ x, s ∈ claimOf md ops x) ∧
  (isRead y = true → isFoot md x = true → (∀ d ∈ claimOf md ops y, d ∈ clash tb md ops (befores ops.toList []) i) ∧ ∀ ρ : Operand → V, within tb ρ y (claims md ops (befores ops.toList []) j) = true → ∀ s ∈ toksOf ρ y, s ∈ claimOf md ops y) ∧
  (isRead x = true → keepOf md y ≠ [] → ∀ ρ : Operand → V, within tb ρ x (claims md ops (befores ops.toList []) i) = true → rdK tb ρ x (keepOf md y) = true) ∧
  (isRead y = true → keepOf md x ≠ [] → ∀ ρ : Operand → V, within tb ρ y (claims md ops (befores ops.toList []) j) = true → rdK tb ρ y (keepOf md x) = true)
theorem freeOf_spec {ρ : Operand → V} {o : Oper} {cl : List Nat} (h : freeOf ρ o cl = true) {d : Nat} (hd : d ∈ cl) : d ∉ toksOf ρ o := fun hm => by
  obtain ⟨x, hx, q⟩ := List.mem_flatMap.1 hm
  have := List.all_eq_true.1 h x hx
  have := List.all_eq_true.1 this d q
  simp [hd] at this
theorem freeOf_put {d : Option Nat} {v : V} {h : Hp} {o : Oper} {cl : List Nat} (hd : ∀ i, d = some i → i ∉ o.looksAt ops) : freeOf (S.put d v h).ev o cl = freeOf S.ev o cl := by
  unfold freeOf
  rw [Bool.eq_iff_iff, List.all_eq_true, List.all_eq_true]
  refine forall_congr' fun x => forall_congr' fun hx => ?_
  rw [ev_put hd (by simpa using hx)]
theorem rdK_put {d : Option Nat} {v : V} {h : Hp} {o : Oper} {ks : List Nat} (hd : ∀ i, d = some i → i ∉ o.looksAt ops) : rdK tb (S.put d v h).ev o ks = rdK tb S.ev o ks := by
  have q : ∀ x ∈ o.op.operands, (S.put d v h).ev x = S.ev x := fun x hx => ev_put hd hx
  obtain ⟨dst, op, type, pos, after, guard⟩ := o
  unfold rdK
  cases op <;> simp only
  case load t a => rw [q a (by simp [Op.operands])]
  case fieldAddr t a f => rw [q a (by simp [Op.operands])]
  case nilCheck a => rw [q a (by simp [Op.operands])]
theorem within_put {d : Option Nat} {v : V} {h : Hp} {o : Oper} {cl : List Nat} (hd : ∀ i, d = some i → i ∉ o.looksAt ops) : within tb (S.put d v h).ev o cl = within tb S.ev o cl := by
  have hp : ∀ cs : List Nat, (o.op.operands.toList.all fun x => ((S.put d v h).ev x).toks.all fun s => cs.contains s) = (o.op.operands.toList.all fun x => (S.ev x).toks.all fun s => cs.contains s) := fun cs => by
    rw [Bool.eq_iff_iff, List.all_eq_true, List.all_eq_true]
    refine forall_congr' fun x => forall_congr' fun hx => ?_
    rw [ev_put hd (by simpa using hx)]
  unfold within
  split
  · rfl
  · exact rdK_put hd
  · rw [rdK_put hd, hp]
  · exact hp _
theorem all_toks {ρ : Operand → V} {o : Oper} {cs : List Nat} (h : (o.op.operands.toList.all fun x => (ρ x).toks.all fun s => cs.contains s) = true) {s : Nat} (hs : s ∈ toksOf ρ o) : s ∈ cs := by
  obtain ⟨x, hx, q⟩ := List.mem_flatMap.1 hs
  have := List.all_eq_true.1 h x hx
  have := List.all_eq_true.1 this s q
  simpa using this
theorem rdK_mono {ρ : Operand → V} {o : Oper} {ks ks' : List Nat} (hk : ∀ i, ks.contains i = true → ks'.contains i = true) (h : rdK tb ρ o ks = true) : rdK tb ρ o ks' = true := by
  obtain ⟨dst, op, type, pos, after, guard⟩ := o
  unfold rdK at h ⊢
  cases op <;> simp only at h ⊢
  case load t a =>
    simp only [Bool.and_eq_true] at h ⊢
    refine ⟨?_, h.2⟩
    have h1 := h.1
    unfold V.keptIn at h1 ⊢
    split at h1
    · simp only [Bool.and_eq_true] at h1 ⊢
      exact ⟨h1.1, hk _ h1.2⟩
    · cases h1
  case fieldAddr => exact h
  case nilCheck => exact h
  all_goals cases h
theorem isRead_cls {o : Oper} (h : isRead o = true) : cls tb md o ≠ 0 := by
  obtain ⟨dst, op, type, pos, after, guard⟩ := o
  simp only [isRead, Bool.and_eq_true] at h
  obtain ⟨h1, h⟩ := h
  cases op <;> cases h <;> (show (if _ then 1 else 2) ≠ 0; split <;> decide)
theorem chk_after [Base] {o x : Oper} {i : Nat} (hd : ∀ d, x.dst = some d → d ∉ o.looksAt ops) (e : evOp P tb md call ops x S = some S1) : chk tb md ops o i S1 = chk tb md ops o i S := by
  simp only [evOp_step, Option.map_eq_some_iff, Prod.exists] at e
  obtain ⟨v, h1, e, rfl⟩ := e
  unfold chk
  rw [freeOf_put hd, within_put hd]

theorem front [Base] (T : TbOk P tb) {i : Nat} {B : List Nat} : ∀ {A : List Nat} {S : St}, (∀ j ∈ A, Free2 tb md ops j i) → evL P tb md call ops (A ++ i :: B) S = some S' →
    ∃ y S1, ops[i]? = some y ∧ chk tb md ops y i S = true ∧ evOp P tb md call ops y S = some S1 ∧ evL P tb md call ops (A ++ B) S1 = some S'
  | [], S, _, e => by
    simp only [List.nil_append, evL] at e ⊢
    split at e
    · rename_i y hy
      split at e
      · rename_i hc
        simp only [Option.bind_eq_some_iff] at e
        obtain ⟨S1, e1, e2⟩ := e
        exact ⟨y, S1, hy, hc, e1, e2⟩
      · cases e
    · cases e
  | j :: A, S, hA, e => by
    simp only [List.cons_append, evL] at e
    split at e
    case h_2 => cases e
    rename_i x hx
    split at e
    case isFalse => cases e
    rename_i hc
    simp only [Option.bind_eq_some_iff] at e
    obtain ⟨Sx, e1, e2⟩ := e
    obtain ⟨y, Sxy, hy, hcy, e3, e4⟩ := front T (fun j hj => hA j (by simp [hj])) e2
    obtain ⟨f1, f2, f3, f4, f5, f6, f7, f8, f9⟩ := hA j (by simp) x y hx hy
    obtain ⟨a1, a2, a3⟩ := Oper.apart_spec f1
    rw [chk_after a1 e1] at hcy
    have turn : ∀ (x y : Oper) (i j : Nat), isRead x = true → isFoot md y = true → cls tb md y ≠ 0 → apartR md ops x y = true → chk tb md ops x i S = true → chk tb md ops y j S = true →
        (∀ d ∈ claimOf md ops x, d ∈ clash tb md ops (befores ops.toList []) j) → (∀ ρ : Operand → V, within tb ρ x (claims md ops (befores ops.toList []) i) = true → ∀ s ∈ toksOf ρ x, s ∈ claimOf md ops x) → ∀ s ∈ toksOf S.ev x, s ∉ toksOf S.ev y ∧ ∀ d, y.dst = some d → s ≠ d := by
      intro x y i j rx fy cy ha cx cy' hcl hq s hs
      simp only [chk, Bool.or_eq_true, beq_iff_eq, isRead_cls rx, false_or, Bool.and_eq_true] at cx
      simp only [chk, Bool.or_eq_true, beq_iff_eq, cy, false_or, Bool.and_eq_true] at cy'
      have hin := hq _ cx.2 s hs
      refine ⟨freeOf_spec cy'.1 (hcl s hin), fun d hd e => ?_⟩
      subst e
      simp only [apartR, Bool.and_eq_true, List.all_eq_true] at ha
      have := ha.2 s (by simp [hd])
      simp [hin] at this
    obtain ⟨Sy, q1, q2⟩ := swap T f1 f2 (by
      by_cases c0 : cls tb md x = 0
      · exact .inl c0
      by_cases c1 : cls tb md y = 0
      · exact .inr (.inl c1)
      simp only [Bool.or_eq_true] at f3
      rcases f3 with (((((f3 | f3) | f3) | f3) | f3) | f3) | f3
      · have cc : cls tb md x = 1 ∧ cls tb md y = 1 := by
          simp only [compat, Bool.or_eq_true, beq_iff_eq, Bool.and_eq_true] at f3
          omega
        simp only [chk, Bool.or_eq_true, beq_iff_eq, c0, false_or, Bool.and_eq_true] at hc
        simp only [chk, Bool.or_eq_true, beq_iff_eq, c1, false_or, Bool.and_eq_true] at hcy
        exact .inr (.inr (.inl ⟨cc.1, cc.2, fun d hd => freeOf_spec hc.1 (f4 c1 d hd), fun d hd => freeOf_spec hcy.1 (f5 c0 d hd)⟩))
      · have h0 := f3
        simp only [apartR, Bool.and_eq_true] at h0
        obtain ⟨g1, g2⟩ := f6 h0.1.1 h0.1.2
        exact .inr (.inr (.inr (.inl ⟨h0.1.1, h0.1.2, turn x y j i h0.1.1 h0.1.2 c1 f3 hc hcy g1 g2⟩)))
      · have h0 := f3
        simp only [apartR, Bool.and_eq_true] at h0
        obtain ⟨g1, g2⟩ := f7 h0.1.1 h0.1.2
        exact .inr (.inr (.inr (.inr (.inl ⟨h0.1.1, h0.1.2, turn y x i j h0.1.1 h0.1.2 c0 f3 hcy hc g1 g2⟩))))
      · simp only [apartK, Bool.and_eq_true, Bool.not_eq_true'] at f3
        have hky : keepOf md y ≠ [] := fun e => by rw [e] at f3; exact absurd f3.2 (by decide)
        simp only [chk, Bool.or_eq_true, beq_iff_eq, c0, false_or, Bool.and_eq_true] at hc
        have hfr := hc.1
        exact .inr (.inr (.inr (.inr (.inr (.inl ⟨hky, f8 f3.1 hky _ hc.2, fun s hs d hd e => freeOf_spec hfr (f4 c1 d hd) (e ▸ hs)⟩)))))
      · simp only [apartK, Bool.and_eq_true, Bool.not_eq_true'] at f3
        have hkx : keepOf md x ≠ [] := fun e => by rw [e] at f3; exact absurd f3.1.2 (by decide)
        simp only [chk, Bool.or_eq_true, beq_iff_eq, c1, false_or, Bool.and_eq_true] at hcy
        have hfr := hcy.1
        exact .inr (.inr (.inr (.inr (.inr (.inr (.inl ⟨hkx, f3.2, f9 f3.1.1 hkx _ hcy.2, fun s hs d hd e => freeOf_spec hfr (f5 c0 d hd) (e ▸ hs)⟩))))))
      · obtain ⟨g1, g2⟩ := (Bool.and_eq_true _ _).mp f3
        simp only [chk, Bool.or_eq_true, beq_iff_eq, c0, false_or, Bool.and_eq_true] at hc
        exact .inr (.inr (.inr (.inr (.inr (.inr (.inr (.inl ⟨g1, g2, fun d hd => freeOf_spec hc.1 (f4 c1 d hd)⟩)))))))
      · obtain ⟨g1, g2⟩ := (Bool.and_eq_true _ _).mp f3
        simp only [chk, Bool.or_eq_true, beq_iff_eq, c1, false_or, Bool.and_eq_true] at hcy
        exact .inr (.inr (.inr (.inr (.inr (.inr (.inr (.inr ⟨g2, g1, fun d hd => freeOf_spec hcy.1 (f5 c0 d hd)⟩)))))))) e1 e3
    refine ⟨y, Sy, hy, hcy, q1, ?_⟩
    simp only [List.cons_append, evL, hx]
    rw [chk_after a3 q1, if_pos hc, q2]
    exact e4

theorem DrawR.free2 (D : DrawR tb md ops) {i j : Nat} (hj : j < ops.size) (hij : i < j) (hn : hasM ((befores ops.toList []).getD j 0) i ≠ true) : Free2 tb md ops i j := by
  intro x y hx hy
  have := D.pair j i hj hij
  simp only [pairOk, hx, hy, Bool.or_eq_true] at this
  replace this := this.resolve_left hn
  simp only [Bool.and_eq_true] at this
  obtain ⟨⟨h1, h2⟩, h3⟩ := this
  have hn' : hasM ((befores ops.toList []).getD i 0) j ≠ true := fun h => by have := D.lt i j (by omega) h; omega
  have e1 : hasM ((befores ops.toList []).getD j 0) i = false := by simpa using hn
  have e2 : hasM ((befores ops.toList []).getD i 0) j = false := by simpa using hn'
  have e3 : (j == i || hasM ((befores ops.toList []).getD i 0) j || hasM ((befores ops.toList []).getD j 0) i) = false := by
    rw [e1, e2]; simp; omega
  have e4 : (i == j || hasM ((befores ops.toList []).getD j 0) i || hasM ((befores ops.toList []).getD i 0) j) = false := by
    rw [e1, e2]; simp; omega
  have kin : keepOf md y ≠ [] → keepOf md y ∈ keepsBy md ops (befores ops.toList []) i := fun hk => by
    refine List.mem_filterMap.2 ⟨j, List.mem_range.2 hj, ?_⟩
    rw [e3, cond_false, hy]
    have : (keepOf md y).isEmpty = false := by cases hq : keepOf md y with | nil => exact absurd hq hk | cons => rfl
    simp only [this, cond_false]
  have kin2 : keepOf md x ≠ [] → keepOf md x ∈ keepsBy md ops (befores ops.toList []) j := fun hk => by
    refine List.mem_filterMap.2 ⟨i, List.mem_range.2 (by omega), ?_⟩
    rw [e4, cond_false, hx]
    have : (keepOf md x).isEmpty = false := by cases hq : keepOf md x with | nil => exact absurd hq hk | cons => rfl
    simp only [this, cond_false]
  have ine : ∀ {L : List (List Nat)} {m : List Nat}, m ∈ L → L.isEmpty = false := fun {L m} hm => by cases L with | nil => cases hm | cons => rfl
  have iin : ∀ {L : List (List Nat)} {m : List Nat}, m ∈ L → ∀ o, (inter L).contains o = true → m.contains o = true := fun {L m} hm o ho => by
    cases L with
    | nil => cases hm
    | cons l ls =>
      simp only [inter, List.contains_iff_mem, List.mem_filter, List.all_eq_true] at ho ⊢
      rcases List.mem_cons.1 hm with e | e
      · rw [e]; exact ho.1
      · exact ho.2 _ e
  have wk : ∀ (z : Oper) (a : Nat) (m : List Nat) (ρ : Operand → V), ops[a]? = some z → isRead z = true → m ∈ keepsBy md ops (befores ops.toList []) a → within tb ρ z (claims md ops (befores ops.toList []) a) = true → rdK tb ρ z m = true := fun z a m ρ hz rz hm hw => by
    simp only [claims, hz, rz, cond_true, ine hm, cond_false] at hw
    cases hf : footBy md ops (befores ops.toList []) a with
    | true =>
      rw [hf, cond_true] at hw
      simp only [within, Bool.and_eq_true] at hw
      have := hw.1
      rw [List.take_left] at this
      exact rdK_mono (iin hm) this
    | false =>
      rw [hf, cond_false] at hw
      exact rdK_mono (iin hm) hw
  have wf : ∀ (z : Oper) (a : Nat) (ρ : Operand → V), ops[a]? = some z → isRead z = true → footBy md ops (befores ops.toList []) a = true → within tb ρ z (claims md ops (befores ops.toList []) a) = true → ∀ s ∈ toksOf ρ z, s ∈ claimOf md ops z := fun z a ρ hz rz hf hw s hs => by
    simp only [claims, hz, rz, cond_true, hf] at hw
    cases hk : (keepsBy md ops (befores ops.toList []) a).isEmpty with
    | true =>
      rw [hk, cond_true] at hw
      unfold claimOf at hw ⊢
      exact all_toks hw hs
    | false =>
      rw [hk, cond_false] at hw
      simp only [within, Bool.and_eq_true] at hw
      have := hw.2
      rw [List.drop_left] at this
      exact all_toks this hs
  refine ⟨h1, h2, h3, fun hc d hd => ?_, fun hc d hd => ?_, fun rx fy => ⟨fun d hd => ?_, fun ρ => wf x i ρ hx rx ?_⟩, fun ry fx => ⟨fun d hd => ?_, fun ρ => wf y j ρ hy ry ?_⟩, fun rx hk ρ => wk x i _ ρ hx rx (kin hk), fun ry hk ρ => wk y j _ ρ hy ry (kin2 hk)⟩
  · refine List.mem_flatMap.2 ⟨j, List.mem_range.2 hj, ?_⟩
    rw [e3]
    simp [hy, hc, hd]
  · refine List.mem_flatMap.2 ⟨i, List.mem_range.2 (by omega), ?_⟩
    rw [e4]
    simp [hx, hc, hd]
  · refine List.mem_flatMap.2 ⟨i, List.mem_range.2 (by omega), ?_⟩
    rw [e4]
    simp [hx, hy, rx, fy, hd]
  · refine List.any_eq_true.2 ⟨j, List.mem_range.2 hj, ?_⟩
    rw [e3]
    simp [hy, fy]
  · refine List.mem_flatMap.2 ⟨j, List.mem_range.2 hj, ?_⟩
    rw [e3]
    simp [hx, hy, ry, fx, hd]
  · refine List.any_eq_true.2 ⟨i, List.mem_range.2 (by omega), ?_⟩
    rw [e4]
    simp [hx, fx]

theorem draw_ok [Base] (T : TbOk P tb) (hC : CallOk P call) (D : DrawR tb md ops) {Q : Exit → Act → World → Prop} : ∀ (fuel : Nat) (L : List Nat) (listed : Array Bool) (S : St) (c : Cz) (a : Act) (w : World),
    L.length ≤ fuel → listed.size = ops.size → L.Pairwise (· < ·) → (∀ i, i ∈ L ↔ i < ops.size ∧ listed.getD i true = false) → Down ops listed →
    FR X w S c a → evL P tb md call ops L S = some S' → (∀ w' c' a', Go_ X w S c w' S' c' a' → Q .normal a' w') → wpAny P .any ops Q fuel listed a w := by
  have done : ∀ (L : List Nat) (listed : Array Bool) (S : St) (c : Cz) (a : Act) (w : World), listed.size = ops.size → L.Pairwise (· < ·) → (∀ i, i ∈ L ↔ i < ops.size ∧ listed.getD i true = false) → Region.ready .any ops listed = [] →
      FR X w S c a → evL P tb md call ops L S = some S' → (∀ w' c' a', Go_ X w S c w' S' c' a' → Q .normal a' w') → Q .normal a w := by
    intro L listed S c a w hsz hL hm hr H e hQ
    cases L with
    | nil => simp [evL] at e; subst e; exact hQ w c a (Go_.refl H)
    | cons i L =>
      exfalso
      obtain ⟨hi, hli⟩ := (hm i).1 (by simp)
      have : i ∈ Region.ready .any ops listed := by
        rw [mem_ready]
        refine ⟨hli, ops[i], Array.getElem?_eq_getElem hi, fun ed he hb => ?_⟩
        have hlt := D.back i _ (Array.getElem?_eq_getElem hi) ed.on (binds1_mem.2 ⟨ed, he, hb, rfl⟩)
        have hn : ed.on ∉ i :: L := fun q => by
          rcases List.mem_cons.1 q with q | q
          · omega
          · have := (List.pairwise_cons.1 hL).1 _ q; omega
        have := fun q => hn ((hm ed.on).2 ⟨by omega, q⟩)
        have hs : ed.on < listed.size := by omega
        simp only [Array.getD_eq_getD_getElem?, Array.getElem?_eq_getElem hs, Option.getD_some] at this ⊢
        simpa using this
      rw [hr] at this; cases this
  intro fuel
  induction fuel with
  | zero =>
    intro L listed S c a w hl hsz hL hm hD H e hQ
    have : L = [] := List.eq_nil_of_length_eq_zero (by omega)
    subst this
    have hr : Region.ready .any ops listed = [] := by
      rw [List.eq_nil_iff_forall_not_mem]
      intro i hi
      obtain ⟨h1, o, h2, _⟩ := mem_ready.1 hi
      exact absurd ((hm i).2 ⟨(Array.getElem?_eq_some_iff.1 h2).1, h1⟩) (by simp)
    exact ⟨hr, done [] listed S c a w hsz hL hm hr H e hQ⟩
  | succ fuel ih =>
    intro L listed S c a w hl hsz hL hm hD H e hQ
    refine ⟨fun hr => done L listed S c a w hsz hL hm hr H e hQ, fun i hi => ?_⟩
    obtain ⟨hli, o, ho, hb⟩ := mem_ready.1 hi
    have hlt := (Array.getElem?_eq_some_iff.1 ho).1
    have hiL := (hm i).2 ⟨hlt, hli⟩
    obtain ⟨A, B, rfl⟩ := List.append_of_mem hiL
    have hpred : ∀ m ∈ binds1 o, listed.getD m true = true := fun m hmb => by
      obtain ⟨ed, he, hbd, rfl⟩ := binds1_mem.1 hmb
      have := hb ed he hbd
      rw [Array.getD_eq_getD_getElem?] at this ⊢
      cases q : listed[ed.on]? with
      | none => rfl
      | some b => rw [q] at this; exact this
    have hA : ∀ j ∈ A, Free2 tb md ops j i := fun j hj => by
      have hji : j < i := (List.pairwise_append.1 hL).2.2 j hj i (by simp)
      refine D.free2 hlt hji fun hbf => ?_
      have h1 := D.listed hD i j o ho hpred hbf
      have h2 := ((hm j).1 (by simp [hj])).2
      rw [h1] at h2; cases h2
    obtain ⟨y, S1, hy, hc, e1, e2⟩ := front T hA e
    rw [ho] at hy; cases hy
    have hni : i ∉ A ++ B := fun hmem => by
      have := hL.imp (fun h => Nat.ne_of_lt h) 
      have nd : (A ++ i :: B).Nodup := this
      rw [List.nodup_append] at nd
      rcases List.mem_append.1 hmem with q | q
      · exact nd.2.2 i q i (by simp) rfl
      · exact (List.nodup_cons.1 nd.2.1).1 q
    have get : ∀ j b, (listed.setIfInBounds i true).getD j b = if j = i then true else listed.getD j b := fun j b => by
      simp only [Array.getD_eq_getD_getElem?, Array.getElem?_setIfInBounds]
      by_cases q : i = j
      · subst q; simp [hsz, hlt]
      · rw [if_neg q, if_neg (fun h => q h.symm)]
    refine wpOp_ok T hC H ho e1 fun w' c' a' g => ?_
    refine ih (A ++ B) (listed.setIfInBounds i true) S1 c' a' w' ?_ (by simpa using hsz) ?_ ?_ ?_ g.fr e2 fun w'' c'' a'' g' => hQ w'' c'' a'' (g.trans g')
    · simp at hl ⊢; omega
    · refine hL.sublist ?_
      exact List.Sublist.append_left (List.sublist_cons_self _ _) _
    · intro j
      rw [get]
      by_cases q : j = i
      · subst q; simp [hni] at *
      · rw [if_neg q, ← hm j]
        simp [q]
    · intro j p hp hj m hmb
      rw [get] at hj ⊢
      split
      · rfl
      · by_cases q : j = i
        · subst q; rw [ho] at hp; cases hp; exact hpred m hmb
        · rw [if_neg q] at hj; exact hD j p hp hj m hmb

theorem draws_ok [Base] (T : TbOk P tb) (hm : P.follows .mixedOrders = true) (hC : CallOk P call) : DrawsOk P tb md call := by
  intro id ops X S S' c a w Q H e hQ
  unfold evRegion at e
  simp only [if_true] at e
  split at e
  case isFalse => cases e
  rename_i hd
  have D := drawOk_spec hd
  rw [evOpsD_evL _ 0 S (by simp)] at e
  have g := H.drew
  refine wp_region_any hm ?_
  refine draw_ok T hC D ops.size _ _ S c a w.drew (by simp) (by simp) (List.pairwise_lt_range') (fun i => ?_) ?_ g.fr e fun w' c' a' g' => hQ w' c' a' (g.trans g')
  · simp [List.mem_range'_1, Array.getD_eq_getD_getElem?]
    intro h; simp [h]
  · intro j o ho hl
    have := (Array.getElem?_eq_some_iff.1 ho).1
    simp [Array.getD_eq_getD_getElem?, this] at hl

/-- The whole: a function that is evaluated answers so. -/
theorem evF_sound [Base] (T : TbOk P tb) (hN : NamesOk P) (hm : P.follows .mixedOrders = true) {prim : Prim} (hP : PrimOk P prim) (n : Nat) : CallOk P (evF P tb md prim n) :=
  evF_ok T hN hP (fun _ hC => draws_ok T hm hC) n
end Go.Ev
