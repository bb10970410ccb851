/- The evaluator: EvExec. -/
import Derived.Test.YtifomiglajcanaaGreatDoorEvOps5
import Derived.Laws.MakeOwn
set_option linter.unusedSimpArgs false
set_option linter.unusedVariables false
namespace Go.Ev
set_option linter.unusedVariables false
variable {P : Program} {tb : Tb} {md : Md} {call : CallF} {X M : Nat → Nat → Prop} {w w' : World} {h h' : Hp} {c c' : Cz} {B : Nat → Nat → Prop}

theorem RO.zero {y : V} (h1 : zOk y = true) : RO B w (zD y) (z0 y) := by
  cases y with
  | d x => cases x with
    | p v => exact .p v h1
    | l => cases h1
  | nl f sz => exact .l f sz [] none 0 (fun _ _ => undef) (by simp) (by simp) (by simp) (fun h => absurd rfl h) (by simp)
  | agg | own | ptr | ept | rpt | tup | u => cases h1

theorem makeSlice_ok [Base] (T : TbOk P tb) (H : HR X w h c) {t a b e d : Nat} {z : List V} (ht : tb t = some ⟨a, b, .sl e, z⟩) {ie : TI} (he : tb e = some ie) {k k' : IntKind} {n : Int} (h0 : 0 ≤ n) (hs : 0 < ie.sz) (hb : ie.by_ * n ≤ 140737488355328) (hn : n ≤ 140737488355328) :
    ∃ u w' c', (Instr.makeSlice t (.int k n) (.int k' n)).run P w = .ok u w' ∧ Mv X (Mut h c) w h c w' (h.new d 0 (.row true (ie.fl) ie.sz (List.replicate n.toNat (ie.z.map zD)))) c' ∧
      RV (Bad X (h.new d 0 (.row true (ie.fl) ie.sz (List.replicate n.toNat (ie.z.map zD)))) c') w' (h.new d 0 (.row true (ie.fl) ie.sz (List.replicate n.toNat (ie.z.map zD)))) c' (.own d 0 ((h d 0).1 + 1)) u := by
  obtain ⟨pi, z', p1, p2, p3, p4, p5, p6, p7, _⟩ := T.ok e ie he
  obtain ⟨m, rfl⟩ := Int.eq_ofNat_of_zero_le h0
  have hzl : z'.cells.toList.length = ie.sz := by rw [p5, List.length_map, p6]
  have hzs : z'.cells.size = ie.sz := by rw [← hzl, Array.length_toList]
  have hmn : (m : Int).toNat = m := rfl
  have hcur : ((Array.range (m * ie.sz)).map fun i => z'.cells[i % z'.cells.size]!).toList = (List.replicate m (ie.z.map z0)).flatten := by
    have := repl_zero z'.cells.toList m
    rw [hzl] at this; rw [← p5, ← this, hzs]
  have hrun : (Instr.makeSlice t (.int k m) (.int k' m)).run P w = .ok (.slice (some ⟨w.heap.size, 0, none⟩) m m) (w.alloc (.cells ((Array.range (m * ie.sz)).map fun i => z'.cells[i % z'.cells.size]!) e)) := by
    have := run_make (P := P) w t e pi z' (T.slice ht) p1 p4 k k' m m (by omega) (Int.le_refl _) (by rw [p3]; omega) (by omega)
    rw [hmn, p2] at this
    exact this
  refine ⟨.slice (some ⟨w.heap.size, 0, none⟩) m m, _, c.put d 0 (.slice (some ⟨w.heap.size, 0, none⟩) m m), hrun, ?_, ?_⟩
  · have := row_new H d 0 e (f := ie.fl) (sz := ie.sz) (xs := List.replicate m (ie.z.map zD)) (cur := (Array.range (m * ie.sz)).map fun i => z'.cells[i % z'.cells.size]!) m (by simp) (by unfold maxLen; omega) (by simp)
      (fun x hx => by rw [(List.mem_replicate.1 hx).2, List.length_map, p6]) (fun hf x hx => by rw [(List.mem_replicate.1 hx).2]; exact hf) (fun i x j y a b => by
        have hx := (List.mem_replicate.1 (List.mem_of_getElem? a)).2
        subst hx
        have hi : i < m := by have := (List.getElem?_eq_some_iff.1 a).1; simpa using this
        rw [List.getElem?_map] at b
        cases hzj : ie.z[j]? with
        | none => simp [hzj] at b
        | some y' =>
          simp [hzj] at b; subst b
          have hg := getElem?_flatten' (sz := ie.sz) (rows := List.replicate m (ie.z.map z0)) (i := i) (j := j) (r := ie.z.map z0) (x := z0 y') (fun r hr => by rw [(List.mem_replicate.1 hr).2, List.length_map, p6]) (by simp [hi]) (by rw [List.getElem?_map, hzj]; rfl)
          rw [← hcur] at hg
          exact ⟨z0 y', by rw [← Array.getElem?_toList]; exact hg, RO.zero (List.all_eq_true.1 p7 y' (List.mem_of_getElem? hzj))⟩) (Fr.refl _ w) rfl
    rw [List.length_replicate] at this
    exact this
  · exact own_sound rfl rfl (s := 0) (k := 0) (f := true) (sz := 0) (xs := [])

theorem v_ok {s : Sem Value} {u : Value} (hs : s.run P w = .ok u w') : (do pure (Next.value (← s)) : Sem Next).run P w = .ok (.value u) w' := by simp [hs]

theorem alive_ok {x : V} {u : Value} (r : RV B w h c x u) (ha : alive h x = true) : ∃ g q, u = .pointer (some ⟨g, q, none⟩) ∧ ∀ off, RV B w h c (x.plus off) (.pointer (some ⟨g, q + off, none⟩)) := by
  cases r with
  | @ptr s k g o _ hg hv =>
    simp only [alive] at ha
    cases hh : h.get s k g with
    | none => simp [hh] at ha
    | some ob =>
      cases ob with
      | row => simp [hh] at ha
      | lent => simp [hh] at ha
      | lentR => simp [hh] at ha
      | box cs =>
        obtain ⟨a, h1, h2, rfl⟩ := hv _ hh rfl
        refine ⟨_, _, rfl, fun off => .ptr hg fun ob' hc hb' => ?_⟩
        obtain ⟨a', h1', h2', e⟩ := hv ob' hc hb'
        rw [h1] at h1'; injection h1' with h1'; injection h1' with h1'; subst h1'
        exact ⟨a, h1, h2, by rw [Nat.add_assoc]⟩
  | @ept s k g i o _ hg hv =>
    simp only [alive] at ha
    cases hh : h.get s k g with
    | none => simp [hh] at ha
    | some ob =>
      cases ob with
      | box => simp [hh] at ha
      | lent => simp [hh] at ha
      | lentR => simp [hh] at ha
      | row o' f sz xs =>
        simp [hh] at ha
        obtain ⟨b, q, n, p, h1, rfl⟩ := hv _ hh rfl ha
        refine ⟨_, _, rfl, fun off => .ept hg fun ob2 hc hb hi => ?_⟩
        rw [hh] at hc; injection hc with hc; subst hc
        exact ⟨b, q, n, p, h1, by simp only [Ob.dim]; congr 3; omega⟩
  | @rpt f sz xs i o b q n p _ hx hi hv => exact ⟨_, _, hv, fun off => .rpt hx hi (by congr 3; omega)⟩
  | d | nl | agg | own | tup | u => simp [alive] at ha
theorem optV_ok [Base] {ρ : Operand → V} {ρc : Operand → Value} (hρ : ∀ x, RV B w h c (ρ x) (ρc x)) {lo : Option Operand} {l : Option Value} (e : optV ρ lo = some l) : lo.map ρc = l := by
  cases lo with
  | none => simpa [optV] using e
  | some y =>
    simp only [optV, Option.map_eq_some_iff] at e
    obtain ⟨b, hb, rfl⟩ := e
    rw [Option.map_some, val1_ok (hρ y) hb]
theorem numsOf_ok : ∀ {xs : List (List D)} {ns : List Int}, numsOf xs = some ns → ns.length = xs.length ∧ ∀ i, i < xs.length → xs[i]? = some [.p (.int .u8 (ns.getD i 0))]
  | [], ns, e => by simp [numsOf] at e; subst e; simp
  | x :: xs, ns, e => by
    unfold numsOf at e
    split at e
    · rename_i h; cases h
    · rename_i n r h
      injection h with h1 h2; subst h1; subst h2
      simp only [Option.map_eq_some_iff] at e
      obtain ⟨ms, e, rfl⟩ := e
      obtain ⟨h1, h2⟩ := numsOf_ok e
      refine ⟨by simp [h1], fun i hi => ?_⟩
      cases i with
      | zero => simp
      | succ i => simpa using h2 i (by simpa using hi)
    · cases e
/-- The operations that are no call of a function. -/
theorem exec_ok [Base] (T : TbOk P tb) (H : HR X w h c) {o : Oper} {ρ : Operand → V} {ρc : Operand → Value} (hρ : ∀ x, RV (Bad X h c) w h c (ρ x) (ρc x)) {v : V} (e : exec P tb md call o ρ h = some (v, h'))
    (hn : ∀ cl f, o.op = .call cl → cl.callee ≠ .value f) : Ok1 P X w h c (execOp ρc o) v h' := by
  have moves : ∀ x, (match ρ x with
      | .nl _ _ => match tb o.type with
        | some ⟨_, _, .sl e, _⟩ => some (V.nl (flOf tb e) (szOf tb e), h)
        | _ => none
      | v => some (v, h)) = some (v, h') → Ok1 P X w h c (pure (.value (ρc x))) v h' := by
    intro x e
    have r := hρ x
    cases hx : ρ x with
    | nl sz =>
      simp only [hx] at e
      split at e
      · rename_i e' _ _
        simp at e; obtain ⟨rfl, rfl⟩ := e
        rw [hx] at r; 
        generalize hu : ρc x = u at *
        cases r
        exact Ok1.pure H rfl .nl
      · cases e
    | d | agg | own | ptr | ept | rpt | tup | u =>
      simp [hx] at e; obtain ⟨rfl, rfl⟩ := e
      exact Ok1.pure H rfl (hx ▸ r)
  have fin1 : ∀ {s : Sem Value} {u : Value} {v : V}, s.run P w = .ok u w → RV (Bad X h c) w h c v u → Ok1 P X w h c (do pure (Next.value (← s))) v h := fun hs r => Ok1.pure H (v_ok hs) r
  obtain ⟨dst, op, type, pos, after, guard⟩ := o
  cases op with
  | move x => exact moves x e
  | assign x =>
    simp only [exec] at e
    have r := hρ x
    cases hx : ρ x with
    | nl sz =>
      simp only [hx] at e
      split at e
      · rename_i e' _ _
        simp at e; obtain ⟨rfl, rfl⟩ := e
        rw [hx] at r
        generalize hu : ρc x = u at *
        cases r
        exact ⟨_, w, _, .inl (by simp [execOp, hu]), nil_new H _ _ _ _, own_sound rfl rfl (s := 0) (k := 0) (f := true) (sz := 0) (xs := [])⟩
      · cases e
    | d | agg | own | ptr | ept | rpt | tup | u =>
      simp only [hx] at e
      rw [hx] at r
      rw [Bool.cond_eq_ite] at e
      split at e
      · simp only [Option.map_eq_some_iff, Prod.exists] at e
        obtain ⟨y, h1, e1, e⟩ := e
        cases e
        obtain ⟨m, ro⟩ := toD_ok H r e1
        exact ⟨_, w, c, .inl rfl, m.all, .d ro⟩
      simp only [Option.some.injEq] at e
      obtain ⟨c', m, r'⟩ := renC_ok (cd := fun s' k' => (Nat.beq (k' % 100) 0 && Nat.blt k' 1000) || (Nat.beq k' 1 && (md 1000003).1.contains (dst.getD 0 * 100000 + s'))) (s := dst.getD 0) (k := 1) H r
      rw [e] at m r'
      exact ⟨_, w, c', .inl rfl, m, r'⟩
  | pick cc a b =>
    simp only [exec] at e
    split at e
    · rename_i t ht
      simp at e; obtain ⟨rfl, rfl⟩ := e
      have hc' := val1_ok (hρ cc) (a := .bool t) (by rw [ht]; rfl)
      refine Ok1.pure H (u := if t then ρc a else ρc b) (by simp [execOp, hc', asBool]) ?_
      cases t
      · exact hρ b
      · exact hρ a
    · cases e
  | alloc el =>
    simp only [exec, Option.map_eq_some_iff] at e
    obtain ⟨i, hi, e⟩ := e
    simp at e; obtain ⟨rfl, rfl⟩ := e
    obtain ⟨u, w', c', h1, h2, h3⟩ := alloc_ok T H (d := dst.getD 0) hi
    exact ⟨u, w', c', .inl (v_ok h1), h2, h3⟩
  | box el x =>
    simp only [exec] at e
    split at e
    case isFalse => cases e
    rename_i hh
    simp at e; obtain ⟨rfl, rfl⟩ := e
    obtain ⟨u, w', c', h1, h2, h3⟩ := box_ok T H (d := dst.getD 0) (hρ x) rfl hh.2.1
    exact ⟨u, w', c', .inl (v_ok h1), h2, h3⟩
  | build t parts =>
    simp only [exec] at e
    split at e
    · rename_i ht
      simp only [Option.map_eq_some_iff] at e
      obtain ⟨cs, h1, e⟩ := e
      simp at e; obtain ⟨rfl, rfl⟩ := e
      obtain ⟨u, h2, h3⟩ := build_ok T H ht hρ h1
      refine fin1 h2 ?_
      cases frzB md (dst.getD 0) t with
      | false => exact h3
      | true => exact h3.frzN
    · cases e
  | buildSlice t len parts =>
    simp only [exec] at e
    split at e
    · rename_i el _ ht
      cases he : tb el with
      | none => simp [he] at e
      | some ie =>
        simp only [he] at e
        split at e
        case isFalse => cases e
        rename_i hle
        simp only [Option.bind_eq_some_iff, Option.map_eq_some_iff, Prod.exists] at e
        obtain ⟨rows, h1, xs, h2, e1, e⟩ := e
        simp at e; obtain ⟨rfl, rfl⟩ := e
        obtain ⟨u, w', c', k1, k2, k3⟩ := buildSlice_ok T H (d := dst.getD 0) ht he hle.1 hle.2 hρ h1 e1
        exact ⟨u, w', c', .inl (v_ok k1), k2, k3⟩
    · cases e
  | load t a =>
    simp only [exec, Option.map_eq_some_iff] at e
    obtain ⟨x, h1, e⟩ := e
    simp at e; obtain ⟨rfl, rfl⟩ := e
    obtain ⟨u, h2, h3⟩ := loadV_ok T H (hρ a) h1
    exact fin1 h2 h3
  | store t a x =>
    simp only [exec, Option.map_eq_some_iff] at e
    obtain ⟨h1, e1, e⟩ := e
    simp at e; obtain ⟨rfl, rfl⟩ := e
    have hom : ∃ c', Mv X (Mut h c) w h c w (homeV (ρ a) ((ρ x).fix (elSz tb t)) h).2 c' ∧ RV (Bad X (homeV (ρ a) ((ρ x).fix (elSz tb t)) h).2 c') w (homeV (ρ a) ((ρ x).fix (elSz tb t)) h).2 c' (homeV (ρ a) ((ρ x).fix (elSz tb t)) h).1 (ρc x) := by
      unfold homeV
      split
      · exact homeAt_ok H ((hρ x).fix _)
      · exact ⟨c, Mv.id H, (hρ x).fix _⟩
    obtain ⟨c', m, r⟩ := hom
    obtain ⟨w', k1, k2⟩ := storeV_ok T m.hr (m.rv (hρ a)) r e1
    exact ⟨undef, w', c', .inr ⟨by simp [execOp, k1], rfl⟩, m.andThen k2, .u⟩
  | nilCheck x =>
    simp only [exec] at e
    split at e
    case isFalse => cases e
    rename_i ha
    simp at e; obtain ⟨rfl, rfl⟩ := e
    obtain ⟨g, q, h1, h2⟩ := alive_ok (hρ x) ha
    exact Ok1.pure H (by simp [execOp, h1]) (hρ x)
  | binOp op xT x y yT =>
    simp only [exec, Option.bind_eq_some_iff, Option.map_eq_some_iff] at e
    obtain ⟨a, ha, b, hb, x', e1, e⟩ := e
    simp at e; obtain ⟨rfl, rfl⟩ := e
    obtain ⟨u, h2, h3⟩ := sc_ok e1 w
    rw [← val_ok (hρ x) ha, ← val_ok (hρ y) hb] at h2
    exact fin1 h2 (h3 _ _ _)
  | unOp op xT x =>
    simp only [exec, Option.bind_eq_some_iff, Option.map_eq_some_iff] at e
    obtain ⟨a, ha, x', e1, e⟩ := e
    simp at e; obtain ⟨rfl, rfl⟩ := e
    obtain ⟨u, h2, h3⟩ := sc_ok e1 w
    rw [← val_ok (hρ x) ha] at h2
    exact fin1 h2 (h3 _ _ _)
  | convert src dst' x =>
    simp only [exec] at e
    split at e
    · rename_i el z hsrc
      split at e
      case h_2 => cases e
      rename_i f xs he hd hr
      simp only [Option.map_eq_some_iff] at e
      obtain ⟨ns, hn, e⟩ := e
      simp at e; obtain ⟨rfl, rfl⟩ := e
      obtain ⟨A, p, hxv, hp, hz, hf, hA⟩ := rowOf_ok H (hρ x) hr
      obtain ⟨hlen, hnum⟩ := numsOf_ok hn
      have hu := T.slice hsrc
      have hrun : (convert src dst' (ρc x)).run P w = .ok (.string (strOfNums ns)) w := by
        rw [hxv]
        cases A with
        | none =>
          have hnil : xs = [] := by
            rcases xs with _ | ⟨y, ys⟩
            · rfl
            · obtain ⟨g, o, e, _⟩ := hA (by simp); cases e
          subst hnil
          have : ns = [] := List.eq_nil_of_length_eq_zero (by simpa using hlen)
          subst this
          exact run_convert_bytes_nil w src el hu he _ _ dst' hd
        | some a =>
          by_cases hx : xs = []
          · subst hx
            have : ns = [] := List.eq_nil_of_length_eq_zero (by simpa using hlen)
            subst this
            rw [run_convert_bytes_string w src dst' el _ _ _ hu he hd]
            exact run_bytesToString w a 0 p [] (by simp [loadCells, loadCellsFrom])
          · obtain ⟨g, o, ea, hcell⟩ := hA hx
            injection ea with ea; subst ea
            refine run_convert_bytes_arg w src el hu he g o _ p ns hlen (fun i hi => ?_) dst' hd
            have hix := hnum i hi
            obtain ⟨v, hv, hro⟩ := hcell i _ 0 _ hix rfl
            cases hro
            rw [Nat.mul_one, Nat.add_zero] at hv
            exact hv
      exact fin1 hrun (.d (.p _ rfl))
    · simp only [Option.bind_eq_some_iff, Option.map_eq_some_iff] at e
      obtain ⟨a, ha, x', e1, e⟩ := e
      simp at e; obtain ⟨rfl, rfl⟩ := e
      obtain ⟨u, h2, h3⟩ := sc_ok e1 w
      rw [← val_ok (hρ x) ha] at h2
      exact fin1 h2 (h3 _ _ _)
  | makeFunc fn first captured =>
    simp only [exec] at e
    split at e
    case isFalse => cases e
    rename_i hh
    simp at e; obtain ⟨rfl, rfl⟩ := e
    obtain ⟨h1, h2⟩ := hh
    obtain rfl := Array.eq_empty_of_size_eq_zero h1
    obtain rfl := Array.eq_empty_of_size_eq_zero h2
    exact Ok1.pure H (u := .func fn #[] #[]) (by simp [execOp, Instr.makeFunc]) (.d (.p _ rfl))
  | makeSlice t l cc =>
    simp only [exec] at e
    split at e
    · rename_i el _ ht
      split at e
      · rename_i ie k n k' m he hl hm
        split at e
        case isFalse => cases e
        rename_i hh
        obtain ⟨rfl, q1, q2, q3, q4⟩ := hh
        simp at e; obtain ⟨rfl, rfl⟩ := e
        obtain ⟨u, w', c', k1, k2, k3⟩ := makeSlice_ok T H (d := dst.getD 0) ht he (k := k) (k' := k') q1 q2 q3 q4
        rw [← val1_ok (hρ l) hl, ← val1_ok (hρ cc) hm] at k1
        exact ⟨u, w', c', .inl (v_ok k1), by simpa using k2, by simpa using k3⟩
      · cases e
    · cases e
  | slice t x lo hi mx =>
    simp only [exec] at e
    split at e
    · rename_i ht
      split at e
      · obtain ⟨u, w', c', k1, k2, k3⟩ := slice_ok T H (d := dst.getD 0) (mx := none) ht hρ e
        exact ⟨u, w', c', .inl (v_ok k1), k2, k3⟩
      · obtain ⟨u, w', c', k1, k2, k3⟩ := slicem_ok T H ht hρ e
        exact ⟨u, w', c', .inl (v_ok k1), k2, k3⟩
    · simp only [Option.bind_eq_some_iff] at e
      obtain ⟨a, ha, l, hl, r, hr, e⟩ := e
      split at e
      case isFalse => cases e
      rename_i hm
      obtain rfl : mx = none := by simpa using hm
      simp only [Option.map_eq_some_iff] at e
      obtain ⟨x', e1, e⟩ := e
      simp at e; obtain ⟨rfl, rfl⟩ := e
      obtain ⟨u, h2, h3⟩ := sc_ok e1 w
      rw [← val1_ok (hρ x) ha, ← optV_ok hρ hl, ← optV_ok hρ hr] at h2
      exact fin1 h2 (h3 _ _ _)
    · cases e
  | fieldAddr st x f =>
    simp only [exec] at e
    split at e
    · rename_i fs _ ht
      cases hf : fs[f]? with
      | none => simp [hf] at e
      | some p =>
        obtain ⟨off, ft⟩ := p
        simp only [hf] at e
        split at e
        · cases e
        · rename_i h0
          split at e
          case isFalse => cases e
          rename_i ha
          simp at e; obtain ⟨rfl, rfl⟩ := e
          obtain ⟨g, q, h1, h2⟩ := alive_ok (hρ x) ha
          exact fin1 (s := Instr.fieldAt st (ρc x) f) (by rw [h1]; exact fieldAddr_run T ht hf h0 g q w) (h2 off)
    · cases e
  | field t x f =>
    simp only [exec] at e
    split at e
    · rename_i fs _ cs ht hx
      cases hf : fs[f]? with
      | none => simp [hf] at e
      | some p =>
        obtain ⟨off, ft⟩ := p
        simp only [hf, Option.map_eq_some_iff] at e
        obtain ⟨x', e1, e⟩ := e
        simp at e; obtain ⟨rfl, rfl⟩ := e
        obtain ⟨u, h2, h3⟩ := field_run T ht hf (hx ▸ hρ x) e1
        exact fin1 h2 h3
    · cases e
  | indexAddr t x ix =>
    simp only [exec] at e
    split at e
    · rename_i el _ f sz xs k i ht hr hi
      split at e
      case isFalse => cases e
      rename_i hh
      obtain ⟨u, h2, h3⟩ := indexAddr_ok T H ht hh.2.2.1 (hρ x) hr (k := k) hh.1 hh.2.1 hh.2.2.2
      rw [← val1_ok (hρ ix) hi] at h2
      injection e with e; injection e with e1 e2; subst e1; subst e2
      exact fin1 h2 h3
    · cases e
  | index t x ix =>
    simp only [exec, Option.bind_eq_some_iff, Option.map_eq_some_iff] at e
    obtain ⟨a, ha, b, hb, x', e1, e⟩ := e
    simp at e; obtain ⟨rfl, rfl⟩ := e
    obtain ⟨u, h2, h3⟩ := sc_ok e1 w
    rw [← val1_ok (hρ x) ha, ← val1_ok (hρ ix) hb] at h2
    exact fin1 h2 (h3 _ _ _)
  | extract t ix =>
    simp only [exec] at e
    split at e
    · rename_i vs hx
      simp only [Option.map_eq_some_iff] at e
      obtain ⟨x', e1, e⟩ := e
      simp at e; obtain ⟨rfl, rfl⟩ := e
      have r := hρ t
      rw [hx] at r
      generalize hu : ρc t = u at *
      cases r with
      | @tup _ us hl hr =>
        have hlt : ix < us.size := by have := (List.getElem?_eq_some_iff.1 e1).1; omega
        have hu' : us[ix]? = some us[ix] := Array.getElem?_eq_getElem hlt
        exact fin1 (s := Instr.extract (ρc t) ix) (by rw [hu]; simp [Instr.extract, hu']) (hr _ _ _ e1 hu')
    · cases e
  | call cl =>
    obtain ⟨callee, args, argTypes⟩ := cl
    cases callee with
    | value f => exact absurd rfl (hn _ f rfl)
    | invoke => simp [exec] at e
    | builtin b =>
      cases b with
      | len =>
        simp only [exec] at e
        split at e
        · rename_i x t hax hat
          have ha : args = #[x] := Array.toList_inj.1 (by simpa using hax)
          have hty : argTypes = #[t] := Array.toList_inj.1 (by simpa using hat)
          subst ha; subst hty
          split at e
          · rename_i ht
            simp only [Option.map_eq_some_iff] at e
            obtain ⟨⟨f, sz, xs⟩, h1, e⟩ := e
            simp at e; obtain ⟨rfl, rfl⟩ := e
            obtain ⟨A, p, h2, _⟩ := rowOf_ok H (hρ x) h1
            exact Ok1.pure H (u := .int .i64 xs.length) (by simp [execOp, resolve, invoke, builtin, Builtin.len_, run_underlying (T.slice ht), h2, goInt]) (.d (.p _ rfl))
          · rename_i ht
            simp only [Option.bind_eq_some_iff, Option.map_eq_some_iff] at e
            obtain ⟨a, ha, x', e1, e⟩ := e
            simp at e; obtain ⟨rfl, rfl⟩ := e
            obtain ⟨u, h2, h3⟩ := sc_ok e1 w
            rw [← val1_ok (hρ x) ha] at h2
            exact Ok1.pure H (by simp [execOp, resolve, invoke, builtin, h2]) (h3 _ _ _)
          · cases e
        · cases e
      | append =>
        simp only [exec] at e
        split at e
        · rename_i x y t t' hax hat
          have ha : args = #[x, y] := Array.toList_inj.1 (by simpa using hax)
          have hty : argTypes = #[t, t'] := Array.toList_inj.1 (by simpa using hat)
          subst ha; subst hty
          split at e
          · rename_i ht
            split at e
            case isFalse => cases e
            rename_i htt
            subst htt
            obtain ⟨u, w', c', k1, k2, k3⟩ := append_ok T H (d := dst.getD 0) (ty := type) ht (hρ x) (hρ y) e
            exact ⟨u, w', c', .inl (by simp [execOp, resolve, invoke, builtin, k1]), k2, k3⟩
          · cases e
        · cases e
      | cap | clear | close | complex | copy | delete | imag | make | max | min | new | panic | print | println | real | recover
      | unsafeAdd | unsafeSlice | unsafeSliceData | unsafeString | unsafeStringData | unsafeSizeof | unsafeAlignof | unsafeOffsetof => simp [exec] at e
  | insert | ready | waits | sliceToArrayPointer | makeInterface | makeMap | makeChan | lookup | mapUpdate | mapEntry | entryStore | range | next | entry | typeAssert | go | defer | panic | send | recv | select => simp [exec] at e
end Go.Ev
