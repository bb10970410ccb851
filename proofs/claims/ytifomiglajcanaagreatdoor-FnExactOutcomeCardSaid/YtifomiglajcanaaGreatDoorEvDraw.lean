/- The evaluator: EvDraw. -/
import Derived.Test.YtifomiglajcanaaGreatDoorEvFn
import Derived.Test.YtifomiglajcanaaGreatDoorEvFoot
set_option linter.unusedSimpArgs false
set_option linter.unusedVariables false
namespace Go.Ev
set_option linter.unusedVariables false
variable {P : Program} {tb : Tb} {md : Md} {call : CallF} {S S' : St} {h h' h1 h2 : Hp}

/-! ### Frozen, and fresh at one slot -/
def Ob.er : Ob → Ob
  | .row _ f sz xs => .row false f sz xs
  | b => b
def frz (x : Nat × Option Ob) : Nat × Option Ob := (x.1, x.2.map Ob.er)
theorem Ob.er_er (b : Ob) : b.er.er = b.er := by cases b <;> rfl
theorem frz_frz (x) : frz (frz x) = frz x := by
  obtain ⟨g, o⟩ := x
  cases o <;> simp [frz, Ob.er_er]
def fzs (fz : Nat → Nat → Bool) (h : Hp) : Hp := fun s k => if fz s k then frz (h s k) else h s k
def Agr (F : List Nat) (h h' : Hp) : Prop := ∀ s, s ∈ F → ∀ k, frz (h s k) = frz (h' s k)
theorem Agr.refl (F) (h : Hp) : Agr F h h := fun _ _ _ => rfl
theorem frz_fzs (fz) (h : Hp) (s k) : frz (fzs fz h s k) = frz (h s k) := by
  unfold fzs; split
  · exact frz_frz _
  · rfl
theorem Agr.fzs {F} (H : Agr F h h') (fz fz') : Agr F (fzs fz h) (Ev.fzs fz' h') := fun s hs k => by
  rw [frz_fzs, frz_fzs]; exact H s hs k
theorem Agr.sub {F G : List Nat} (H : Agr F h h') (q : ∀ s ∈ G, s ∈ F) : Agr G h h' := fun s hs => H s (q s hs)
theorem fzs_fzs (f g) (h : Hp) : fzs g (fzs f h) = fzs (fun s k => f s k || g s k) h := by
  funext s k
  simp only [fzs]
  by_cases a : f s k = true <;> by_cases b : g s k = true <;> simp [a, b, frz_frz]
theorem fzs_no (h : Hp) : fzs (fun _ _ => false) h = h := by funext s k; simp [fzs]

theorem get_er {F} (H : Agr F h h') {s k g : Nat} (hs : s ∈ F) : (h.get s k g).map Ob.er = (h'.get s k g).map Ob.er := by
  have := H s hs k
  simp only [frz, Prod.mk.injEq] at this
  simp only [Hp.get_def]
  rw [this.1]
  split
  · exact this.2
  · rfl
theorem row_er {F} (H : Agr F h h') {s k g : Nat} (hs : s ∈ F) {b f sz xs} (e : h.get s k g = some (.row b f sz xs)) : ∃ b', h'.get s k g = some (.row b' f sz xs) := by
  have := get_er H (k := k) (g := g) hs
  rw [e] at this
  cases q : h'.get s k g with
  | none => rw [q] at this; cases this
  | some ob =>
    rw [q] at this
    cases ob with
    | row b' f' sz' xs' => simp [Ob.er] at this; obtain ⟨rfl, rfl, rfl⟩ := this; exact ⟨b', rfl⟩
    | box cs => simp [Ob.er] at this
    | lent => simp [Ob.er] at this
    | lentR => simp [Ob.er] at this
theorem box_er {F} (H : Agr F h h') {s k g : Nat} (hs : s ∈ F) {cs} (e : h.get s k g = some (.box cs)) : h'.get s k g = some (.box cs) := by
  have := get_er H (k := k) (g := g) hs
  rw [e] at this
  cases q : h'.get s k g with
  | none => rw [q] at this; cases this
  | some ob =>
    rw [q] at this
    cases ob with
    | row b' f' sz' xs' => simp [Ob.er] at this
    | box cs => simp [Ob.er] at this; rw [this]
    | lent => simp [Ob.er] at this
    | lentR => simp [Ob.er] at this
theorem V.fix_toks (v : V) (sz) : (v.fix sz).toks = v.toks := by cases v <;> rfl

theorem rowOf_er {F} (H : Agr F h h') {v : V} (hv : ∀ s ∈ v.toks, s ∈ F) {r} (e : rowOf h v = some r) : rowOf h' v = some r := by
  unfold rowOf at e ⊢
  split at e
  · exact e
  · exact e
  · rename_i s k g
    split at e
    · rename_i b f sz xs hg
      obtain ⟨b', hb⟩ := row_er H (hv s (by simp [V.toks, V.tok1])) hg
      simp only [hb]; exact e
    · cases e
  · cases e
theorem alive_er {F} (H : Agr F h h') {v : V} (hv : ∀ s ∈ v.toks, s ∈ F) (e : alive h v = true) : alive h' v = true := by
  unfold alive at e ⊢
  split at e
  · rename_i s k g o
    split at e
    · rename_i cs hg
      simp only [box_er H (hv s (by simp [V.toks, V.tok1])) hg]
    · cases e
  · rename_i s k g i o
    split at e
    · rename_i b f sz xs hg
      obtain ⟨b', hb⟩ := row_er H (hv s (by simp [V.toks, V.tok1])) hg
      simp only [hb]; exact e
    · cases e
  · rfl
  · cases e
theorem loadV_er {F} (H : Agr F h h') {t : Nat} {a v : V} (hv : ∀ s ∈ a.toks, s ∈ F) (e : loadV tb h t a = some v) : loadV tb h' t a = some v := by
  unfold loadV at e ⊢
  split at e
  · rename_i s k g o
    split at e
    · rename_i cs hg
      simp only [box_er H (hv s (by simp [V.toks, V.tok1])) hg]; exact e
    · cases e
  · rename_i s k g i o
    split at e
    · rename_i b f sz xs hg
      obtain ⟨b', hb⟩ := row_er H (hv s (by simp [V.toks, V.tok1])) hg
      simp only [hb]; exact e
    · cases e
  · exact e
  · cases e

/-! ### Lists that are laid open -/
def FzOk {α : Type} (F : List Nat) (f : Hp → Option (α × Hp)) : Prop := ∀ h x h1, f h = some (x, h1) →
  ∃ fz : Nat → Nat → Bool, (∀ s k, fz s k = true → s ∈ F) ∧ h1 = fzs fz h ∧ ∀ h', Agr F h h' → f h' = some (x, fzs fz h')
theorem toD_fz {F} {v : V} (hv : ∀ s ∈ v.tok1, s ∈ F) : FzOk F v.toD := by
  intro h x h1 e
  unfold V.toD at e
  simp only at e
  split at e
  · cases e; exact ⟨fun _ _ => false, by simp, (fzs_no _).symm, fun h' _ => by rw [fzs_no]; rfl⟩
  · cases e; exact ⟨fun _ _ => false, by simp, (fzs_no _).symm, fun h' _ => by rw [fzs_no]; rfl⟩
  · rename_i s k g
    split at e
    · rename_i b f sz xs hg
      cases e
      have key : ∀ (h : Hp) b, h.get s k g = some (.row b f sz xs) → h.mod s k (some (.row false f sz xs)) = fzs (fun s' k' => s' == s && k' == k) h := fun h b hg => by
        funext s' k'
        simp only [Hp.mod, Hp.put_def, fzs, Bool.and_eq_true, beq_iff_eq]
        split
        · rename_i q; obtain ⟨rfl, rfl⟩ := q
          rw [Hp.get_def] at hg; split at hg
          · simp [frz, hg, Ob.er]
          · cases hg
        · rfl
      refine ⟨_, fun s' k' q => ?_, key h b hg, fun h' H => ?_⟩
      · simp at q; rw [q.1]; exact hv s (by simp [V.toks, V.tok1])
      obtain ⟨b', hb⟩ := row_er H (hv s (by simp [V.tok1])) hg
      simp only [V.toD, hb, key h' b' hb]
    · cases e
  · cases e
theorem FzOk.bind {α β : Type} {F} {f : Hp → Option (α × Hp)} {g : α → Hp → Option (β × Hp)} (hf : FzOk F f) (hg : ∀ x, FzOk F (g x)) : FzOk F fun h => (f h).bind fun (x, h) => g x h := by
  intro h y h2 e
  simp only [Option.bind_eq_some_iff, Prod.exists] at e
  obtain ⟨x, h1, e1, e2⟩ := e
  obtain ⟨fz, a1, rfl, q⟩ := hf h x h1 e1
  obtain ⟨fz', a2, rfl, q'⟩ := hg x _ y h2 e2
  refine ⟨_, fun s k t => ?_, fzs_fzs fz fz' h, fun h' H => ?_⟩
  · simp at t; exact t.elim (a1 s k) (a2 s k)
  simp only [q h' H, Option.bind_some, q' _ (H.fzs fz fz), fzs_fzs]
theorem FzOk.pure {α : Type} {F} (x : α) : FzOk F fun h => some (x, h) := by
  intro h y h1 e; cases e
  exact ⟨fun _ _ => false, by simp, (fzs_no _).symm, fun h' _ => by rw [fzs_no]⟩
theorem FzOk.map {α β : Type} {F} {f : Hp → Option (α × Hp)} (hf : FzOk F f) (g : α → β) : FzOk F fun h => (f h).map fun (x, h) => (g x, h) := by
  have := hf.bind fun x => FzOk.pure (F := F) (g x)
  intro h y h1 e
  have e' : ((f h).bind fun (x, h) => some (g x, h)) = some (y, h1) := by
    cases q : f h <;> simp_all
  obtain ⟨fz, a0, a, b⟩ := this h y h1 e'
  refine ⟨fz, a0, a, fun h' H => ?_⟩
  have := b h' H
  cases q : f h' <;> simp_all
theorem toDs_fz {F} : ∀ {vs : List V}, (∀ v ∈ vs, ∀ s ∈ v.tok1, s ∈ F) → FzOk F (toDs vs)
  | [], _ => FzOk.pure (F := F) []
  | v :: vs, hv => (toD_fz (hv v (by simp))).bind fun x => (toDs_fz fun v hm => hv v (by simp [hm])).map _
theorem toDss_fz {F} : ∀ {vs : List (List V)}, (∀ l ∈ vs, ∀ v ∈ l, ∀ s ∈ v.tok1, s ∈ F) → FzOk F (toDss vs)
  | [], _ => FzOk.pure (F := F) []
  | v :: vs, hv => (toDs_fz (hv v (by simp))).bind fun x => (toDss_fz fun v hm => hv v (by simp [hm])).map _

/-! ### What is laid at one slot -/
def LocD {α : Type} (d : Nat) (f : Hp → Option (α × Hp)) : Prop := ∀ h x h1, f h = some (x, h1) →
  h1 = onD d (h1 d) h ∧ ∀ h', h' d = h d → f h' = some (x, onD d (h1 d) h')
theorem onD_self (d) (h : Hp) : onD d (h d) h = h := by funext s k; simp only [onD]; split <;> simp_all
theorem onD_onD (d N N') (h : Hp) : onD d N (onD d N' h) = onD d N h := by funext s k; simp only [onD]; split <;> rfl
theorem onD_at (d N) (h : Hp) : onD d N h d = N := by funext k; simp [onD]
theorem LocD.pure {α : Type} {d} (x : α) : LocD d fun h => some (x, h) := by
  intro h y h1 e; cases e
  exact ⟨(onD_self _ _).symm, fun h' q => by rw [← q, onD_self]⟩
theorem LocD.bind {α β : Type} {d} {f : Hp → Option (α × Hp)} {g : α → Hp → Option (β × Hp)} (hf : LocD d f) (hg : ∀ x, LocD d (g x)) : LocD d fun h => (f h).bind fun (x, h) => g x h := by
  intro h y h2 e
  simp only [Option.bind_eq_some_iff, Prod.exists] at e
  obtain ⟨x, h1, e1, e2⟩ := e
  obtain ⟨a, b⟩ := hf h x h1 e1
  obtain ⟨a', b'⟩ := hg x _ y h2 e2
  refine ⟨?_, fun h' q => ?_⟩
  · rw [a, onD_onD] at a'; exact a'
  · simp only [b h' q, Option.bind_some]
    rw [b' _ (onD_at _ _ _), onD_onD]
theorem LocD.map {α β : Type} {d} {f : Hp → Option (α × Hp)} (hf : LocD d f) (g : α → β) : LocD d fun h => (f h).map fun (x, h) => (g x, h) := by
  intro h y h1 e
  cases q : f h with
  | none => simp [q] at e
  | some p =>
    obtain ⟨x, h2⟩ := p
    simp only [q, Option.map_some] at e; cases e
    obtain ⟨a, b⟩ := hf h x _ q
    exact ⟨a, fun h' q => by simp [b h' q]⟩
/-- A new object at the slot. -/
theorem LocD.new {α : Type} (d k : Nat) (ob : Ob) (f : Nat → α) : LocD d fun h => some (f ((h d k).1 + 1), h.new d k ob) := by
  intro h y h1 e
  injection e with e; injection e with e1 e2; subst e1; subst e2
  refine ⟨?_, fun h' q => ?_⟩
  · funext s k'
    simp only [onD, Hp.new, Hp.put_def]
    by_cases hs : s = d <;> simp [hs]
  · simp only [Option.some.injEq, Prod.mk.injEq]
    refine ⟨by rw [q], ?_⟩
    funext s k'
    simp only [onD, Hp.new, Hp.put_def]
    by_cases hs : s = d <;> simp [hs, q]
theorem LocD.none {α : Type} {d} : LocD d fun _ => (none : Option (α × Hp)) := fun _ _ _ e => by cases e
theorem ldCell_loc (d k t) : LocD d (ldCell d k t) := by
  unfold ldCell
  cases t with
  | d x => exact .pure _
  | own f sz xs => exact .new d k _ fun g => V.own d k g
  | lend f sz xs => exact .none
  | agg cs => exact .none
  | ptr cs => exact .none
theorem ldCells_loc (d) : ∀ ts k, LocD d (ldCells d k ts)
  | [], k => .pure []
  | t :: ts, k => (ldCell_loc d k t).bind fun x => (ldCells_loc d ts (k + 1)).map _
theorem ldT_loc (d k t) : LocD d (ldT d k t) := by
  cases t with
  | agg ts => exact (ldCells_loc d ts (k + 1)).map V.agg
  | ptr ts =>
    have : ldT d k (.ptr ts) = fun h => (ldCells d (1000 * (k + 1)) ts h).bind fun (vs, h) => some (.ptr d k ((h d k).1 + 1) 0, h.new d k (.box vs)) := by
      funext h
      simp only [ldT]
      cases q : ldCells d (1000 * (k + 1)) ts h with
      | none => rfl
      | some p =>
        rfl
    rw [this]
    exact (ldCells_loc d ts (1000 * (k + 1))).bind fun vs => .new d k _ fun g => V.ptr d k g 0
  | d x => exact ldCell_loc d k (.d x)
  | own f sz xs => exact ldCell_loc d k (.own f sz xs)
  | lend f sz xs => exact ldCell_loc d k (.own f sz xs)
theorem ldRs_loc (d) : ∀ ts k, LocD d (ldRs d k ts)
  | [], k => .pure []
  | t :: ts, k => (ldT_loc d k t).bind fun x => (ldRs_loc d ts (k + 100)).map _

/-! ### Operations of the class 1 -/
def Step1 (d : Nat) (F : List Nat) (f : Hp → Option (V × Hp)) : Prop := ∀ h v h1, f h = some (v, h1) →
  ∃ (fz : Nat → Nat → Bool) (N : Nat → Nat × Option Ob), (∀ s k, fz s k = true → s ∈ F) ∧ h1 = onD d N (fzs fz h) ∧ ∀ h', h' d = h d → Agr F h h' → f h' = some (v, onD d N (fzs fz h'))
variable {d : Nat} {F : List Nat}
theorem Step1.read {g : Hp → Option V} (q : ∀ h h' v, Agr F h h' → g h = some v → g h' = some v) : Step1 d F fun h => (g h).map fun v => (v, h) := by
  intro h v h1 e
  simp only [Option.map_eq_some_iff] at e
  obtain ⟨v, e, r⟩ := e
  cases r
  refine ⟨fun _ _ => false, h d, by simp, by rw [fzs_no, onD_self], fun h' e' H => ?_⟩
  simp only [q h h' v H e, Option.map_some]
  rw [fzs_no, ← e', onD_self]
theorem Step1.loc {f} (q : LocD d f) : Step1 d F f := by
  intro h v h1 e
  obtain ⟨a, b⟩ := q h v h1 e
  exact ⟨fun _ _ => false, h1 d, by simp, by rw [fzs_no]; exact a, fun h' e' _ => by rw [fzs_no]; exact b h' e'⟩
theorem Step1.congr {f g : Hp → Option (V × Hp)} (q : Step1 d F f) (e : ∀ h, g h = f h) : Step1 d F g := by
  rw [funext e]; exact q
theorem Step1.none : Step1 d F fun _ => none := fun _ _ _ e => by cases e
theorem Step1.fzLoc {α : Type} {f : Hp → Option (α × Hp)} {g : α → Hp → Option (V × Hp)} (hf : FzOk F f) (hg : ∀ x, LocD d (g x)) : Step1 d F fun h => (f h).bind fun (x, h) => g x h := by
  intro h v h2 e
  simp only [Option.bind_eq_some_iff, Prod.exists] at e
  obtain ⟨x, h1, e1, e2⟩ := e
  obtain ⟨fz, a1, rfl, q⟩ := hf h x h1 e1
  obtain ⟨a, b⟩ := hg x _ v h2 e2
  refine ⟨fz, h2 d, a1, a, fun h' e' H => ?_⟩
  simp only [q h' H, Option.bind_some]
  exact b _ (by funext k; simp only [fzs, e'])

/-- What was shown, and what of it was its owner's. -/
def Shown (h : Hp) (a : List (Nat × Nat)) (fz : Nat → Nat → Bool) : Prop :=
  (∀ s k, (s, k) ∈ a → fz s k = true ∧ ownAt h s k = true) ∧ ∀ s k, fz s k = true → (s, k) ∈ a ∨ frz (h s k) = h s k
theorem freezes_eq : ∀ (a : List (Nat × Nat)) (h : Hp), freezes a h = fzs (fun s k => a.contains (s, k)) h
  | [], h => by simp [freezes, fzs_no]
  | (s, k) :: r, h => by
    have key : ∀ h2, (∀ s' k', h2 s' k' = fzs (fun s' k' => (s', k') == (s, k)) h s' k') → freezes r h2 = fzs (fun s' k' => ((s, k) :: r).contains (s', k')) h := fun h2 q => by
      have : h2 = _ := funext fun s' => funext fun k' => q s' k'
      rw [freezes_eq r, this, fzs_fzs]
      congr 1
    rw [freezes]
    split
    · rename_i f sz xs hx
      refine key _ fun s' k' => ?_
      simp only [fzs, beq_iff_eq, Prod.mk.injEq, Hp.mod, Hp.put_def]
      split
      · rename_i q; obtain ⟨rfl, rfl⟩ := q; simp [frz, hx, Ob.er]
      · rfl
    · rename_i hx
      refine key _ fun s' k' => ?_
      simp only [fzs, beq_iff_eq, Prod.mk.injEq]
      split
      · rename_i q; obtain ⟨rfl, rfl⟩ := q
        generalize h s' k' = z at *
        obtain ⟨g, o⟩ := z
        cases o with
        | none => rfl
        | some ob => cases ob with
          | row b f sz xs => exact absurd rfl (hx b f sz xs)
          | box cs => rfl
          | lent => rfl
          | lentR => rfl
      · rfl
theorem Shown.freezes {a fz} (H : Shown h a fz) : freezes a h = fzs fz h := by
  rw [freezes_eq]
  funext s k
  simp only [fzs]
  by_cases q : (s, k) ∈ a
  · rw [if_pos (by simpa using q), if_pos (H.1 s k q).1]
  · rw [if_neg (by simpa using q)]
    split
    · rename_i f; exact ((H.2 s k f).resolve_left q).symm
    · rfl
theorem Shown.all {a fz} (H : Shown h a fz) : (a.all fun (s, k) => ownAt h s k) = true := by
  simp only [List.all_eq_true]
  rintro ⟨s, k⟩ q; exact (H.1 s k q).2
theorem Shown.nil : Shown h [] fun _ _ => false := ⟨by simp, by simp⟩
theorem Shown.append {a b fz fz'} (H : Shown h a fz) (H' : Shown h b fz') : Shown h (a ++ b) fun s k => fz s k || fz' s k := by
  refine ⟨fun s k q => ?_, fun s k q => ?_⟩
  · rcases List.mem_append.1 q with q | q
    · exact ⟨by simp [(H.1 s k q).1], (H.1 s k q).2⟩
    · exact ⟨by simp [(H'.1 s k q).1], (H'.1 s k q).2⟩
  · simp at q
    rcases q with q | q
    · exact (H.2 s k q).imp (fun x => by simp [x]) _root_.id
    · exact (H'.2 s k q).imp (fun x => by simp [x]) _root_.id
/-- Read only by who gets it. -/
def RoOk (F : List Nat) (α : Type) (f : Hp → Option (α × List (Nat × Nat))) : Prop := ∀ h t a, f h = some (t, a) →
  ∃ fz : Nat → Nat → Bool, (∀ s k, fz s k = true → s ∈ F) ∧ Shown h a fz ∧ ∀ h', Agr F h h' → ∃ a', f h' = some (t, a') ∧ Shown h' a' fz
theorem RoOk.pure {α} (t : α) : RoOk F α fun _ => some (t, []) := by
  intro h t' a e; cases e
  exact ⟨fun _ _ => false, by simp, .nil, fun h' _ => ⟨[], rfl, .nil⟩⟩
theorem roCell_ro {v : V} (hv : ∀ s ∈ v.tok1, s ∈ F) : RoOk F T fun h => roCell h v := by
  intro h t a e
  unfold roCell at e
  simp only at e
  split at e
  · exact RoOk.pure _ h t a e
  · exact RoOk.pure _ h t a e
  · rename_i s k g
    split at e
    · rename_i b f sz xs hg
      cases e
      have key : ∀ (h : Hp) b, h.get s k g = some (.row b f sz xs) → Shown h (if b = true then [(s, k)] else []) fun s' k' => s' == s && k' == k := fun h b hg => by
        have h2 : (h s k).2 = some (.row b f sz xs) := by
          rw [Hp.get_def] at hg; split at hg
          · exact hg
          · cases hg
        refine ⟨fun s' k' q => ?_, fun s' k' q => ?_⟩
        · cases b with
          | false => simp at q
          | true => simp at q; obtain ⟨rfl, rfl⟩ := q; simp [ownAt, h2]
        · simp at q; obtain ⟨rfl, rfl⟩ := q
          cases b with
          | true => exact .inl (by simp)
          | false => exact .inr (by simp [frz, Prod.ext_iff, h2, Ob.er])
      refine ⟨_, fun s' k' q => ?_, key h b hg, fun h' H => ?_⟩
      · simp at q; rw [q.1]; exact hv s (by simp [V.toks, V.tok1])
      obtain ⟨b', hb⟩ := row_er H (hv s (by simp [V.toks, V.tok1])) hg
      exact ⟨_, by simp only [roCell, hb], key h' b' hb⟩
    · cases e
  · cases e
theorem roCells_ro : ∀ {vs : List V}, (∀ v ∈ vs, ∀ s ∈ v.tok1, s ∈ F) → RoOk F (List T) fun h => roCells h vs
  | [], _ => RoOk.pure []
  | v :: vs, hv => by
    intro h t a e
    simp only [roCells, Option.bind_eq_some_iff, Option.map_eq_some_iff, Prod.exists] at e
    obtain ⟨t1, a1, e1, t2, a2, e2, e3⟩ := e
    cases e3
    obtain ⟨fz, p1, p2, p3⟩ := roCell_ro (hv v (by simp)) h t1 a1 e1
    obtain ⟨fz', q1, q2, q3⟩ := roCells_ro (fun v hm => hv v (by simp [hm])) h t2 a2 e2
    refine ⟨fun s k => fz s k || fz' s k, fun s k x => ?_, p2.append q2, fun h' H => ?_⟩
    · simp at x; exact x.elim (p1 s k) (q1 s k)
    obtain ⟨a', r1, r2⟩ := p3 h' H
    obtain ⟨b', r3, r4⟩ := q3 h' H
    exact ⟨a' ++ b', by simp [roCells, r1, r3], r2.append r4⟩
theorem argT_ro {ty : Nat} (hty : ∀ n b e z, tb ty ≠ some ⟨n, b, .pt e, z⟩) {v : V} (hv : ∀ s ∈ v.toks, s ∈ F) {t h1 a b} (e : argT tb ty 0 h v = some (t, h1, a, b)) :
    h1 = h ∧ b = [] ∧ ∃ fz : Nat → Nat → Bool, (∀ s k, fz s k = true → s ∈ F) ∧ Shown h a fz ∧ ∀ h', Agr F h h' → ∃ a', argT tb ty 0 h' v = some (t, h', a', []) ∧ Shown h' a' fz := by
  have hv' : ∀ s ∈ (v.fix (elSz tb ty)).toks, s ∈ F := by rw [V.fix_toks]; exact hv
  unfold argT argR at e ⊢
  generalize v.fix (elSz tb ty) = v' at *
  cases v' with
  | agg cs =>
    simp only [Option.map_eq_some_iff, Prod.exists] at e
    obtain ⟨ts, x, e, r⟩ := e
    cases r
    obtain ⟨fz, p1, p2, p3⟩ := roCells_ro (F := F) (vs := cs) (fun v hm s hs => hv' s (by simp only [V.toks, List.mem_flatMap]; exact ⟨v, hm, hs⟩)) h ts a e
    refine ⟨rfl, rfl, fz, p1, p2, fun h' H => ?_⟩
    obtain ⟨a', r1, r2⟩ := p3 h' H
    exact ⟨a', by simp [r1], r2⟩
  | ptr s k g o =>
    simp only at e
    split at e
    · rename_i ht; exact absurd ht (hty _ _ _ _)
    · cases e
  | _ =>
    simp only [Option.map_eq_some_iff, Prod.exists] at e
    obtain ⟨t', x, e, r⟩ := e
    cases r
    obtain ⟨fz, p1, p2, p3⟩ := roCell_ro (F := F) (by exact hv') h t a e
    refine ⟨rfl, rfl, fz, p1, p2, fun h' H => ?_⟩
    obtain ⟨a', r1, r2⟩ := p3 h' H
    exact ⟨a', by simp [r1], r2⟩

theorem argTs_ro {cons : List Nat} (hc : ∀ i, cons.getD i 0 = 0) : ∀ {tys : List Nat} {vs : List V} {i}, (∀ ty ∈ tys, ∀ n b e z, tb ty ≠ some ⟨n, b, .pt e, z⟩) → (∀ v ∈ vs, ∀ s ∈ v.toks, s ∈ F) → ∀ {h ts h1 a b}, argTs tb cons i tys vs h = some (ts, h1, a, b) →
    h1 = h ∧ b = [] ∧ ∃ fz : Nat → Nat → Bool, (∀ s k, fz s k = true → s ∈ F) ∧ Shown h a fz ∧ ∀ h', Agr F h h' → ∃ a', argTs tb cons i tys vs h' = some (ts, h', a', []) ∧ Shown h' a' fz
  | tys, [], i, _, _, h, ts, h1, a, b, e => by
    have e' : some (([] : List T), h, ([] : List (Nat × Nat)), ([] : List Lent)) = some (ts, h1, a, b) := by cases tys <;> simpa [argTs] using e
    cases e'
    exact ⟨rfl, rfl, fun _ _ => false, by simp, .nil, fun h' _ => ⟨[], by cases tys <;> simp [argTs], .nil⟩⟩
  | [], v :: vs, i, _, _, h, ts, h1, a, b, e => by simp [argTs] at e
  | ty :: tys, v :: vs, i, ht, hv, h, ts, h1, a, b, e => by
    simp only [argTs, hc, Option.bind_eq_some_iff, Option.map_eq_some_iff, Prod.exists] at e
    obtain ⟨t1, h2, a1, b1, e1, ts2, h3, a2, b2, e2, e3⟩ := e
    obtain ⟨rfl, rfl, fz, p1, p2, p3⟩ := argT_ro (ht ty (by simp)) (hv v (by simp)) e1
    obtain ⟨rfl, rfl, fz', q1, q2, q3⟩ := argTs_ro hc (fun t hm => ht t (by simp [hm])) (fun v hm => hv v (by simp [hm])) e2
    cases e3
    refine ⟨rfl, rfl, fun s k => fz s k || fz' s k, fun s k x => ?_, p2.append q2, fun h' H => ?_⟩
    · simp at x; exact x.elim (p1 s k) (q1 s k)
    obtain ⟨a', r1, r2⟩ := p3 h' H
    obtain ⟨b', r3, r4⟩ := q3 h' H
    exact ⟨a' ++ b', by simp only [argTs, hc, r1, r3, Option.bind_some, Option.map_some, List.append_nil], r2.append r4⟩

theorem callV_1 {g : Nat} {tys : List Nat} {vs : List V} (hc : ∀ i, (md g).1.getD i 0 = 0) (ht : ∀ ty ∈ tys, ∀ n b e z, tb ty ≠ some ⟨n, b, .pt e, z⟩) (hv : ∀ v ∈ vs, ∀ s ∈ v.toks, s ∈ F) :
    Step1 d F (callV tb md call g tys vs (some d)) := by
  intro h v h2 e
  simp only [callV, Option.bind_eq_some_iff, Prod.exists] at e
  obtain ⟨ts, h1, a, b, e1, e⟩ := e
  obtain ⟨rfl, rfl, fz, p1, p2, p3⟩ := argTs_ro hc ht hv e1
  split at e
  case isFalse => cases e
  simp only [Option.bind_eq_some_iff, Prod.exists] at e
  obtain ⟨rs, ps, e2, h3, e3, e4⟩ := e
  have hps : ps = [] := by cases ps with
    | nil => rfl
    | cons x xs => simp [backs] at e3
  subst hps
  simp only [backs, T.sharesL, Bool.or_false, Option.some.injEq] at e3
  have L := (ldRs_loc d rs 0).map tupV
  obtain ⟨l1, l2⟩ := L h3 v h2 e4
  refine ⟨if T.sharesL rs then fz else fun _ _ => false, h2 d, ?_, ?_, fun h' e' H => ?_⟩
  · intro s k q; split at q
    · exact p1 s k q
    · cases q
  · refine l1.trans (congrArg _ ?_)
    rw [← e3]
    split
    · rw [p2.freezes]
    · rw [fzs_no]
  · obtain ⟨a', r1, r2⟩ := p3 h' H
    simp only [callV, r1, Option.bind_some]
    rw [if_pos r2.all]
    simp only [e2, Option.bind_some, backs, T.sharesL, Bool.or_false]
    have hh : (if T.sharesL rs = true then freezes a' h' else h') d = h3 d := by
      subst e3
      split
      · rw [r2.freezes, p2.freezes]; funext k; simp only [fzs, e']
      · exact e'
    have := l2 _ hh
    rw [show (if T.sharesL rs = true then freezes a' h' else h') = fzs (if T.sharesL rs = true then fz else fun _ _ => false) h' from by
      split
      · rw [r2.freezes]
      · rw [fzs_no]] at this ⊢
    exact this

theorem cells_tok1 {v : V} {x : V} (h : x ∈ v.cells) : ∀ s ∈ x.tok1, s ∈ v.toks := fun s hs => by
  cases v with
  | agg cs => exact List.mem_flatMap.2 ⟨x, h, hs⟩
  | _ => simp [V.cells] at h; subst h; exact hs
theorem fillS_tok {e : Nat} {ρ : Operand → V} : ∀ {ps : List (Nat × Operand)} {cs rs : List (List V)}, fillS tb e ρ ps cs = some rs → (∀ p ∈ ps, ∀ s ∈ (ρ p.2).toks, s ∈ F) → (∀ l ∈ cs, ∀ v ∈ l, ∀ s ∈ v.tok1, s ∈ F) →
    ∀ l ∈ rs, ∀ v ∈ l, ∀ s ∈ v.tok1, s ∈ F
  | [], cs, rs, q, _, hcs => by simp [fillS] at q; subst q; exact hcs
  | (j, x) :: ps, cs, rs, q, hp, hcs => by
    simp only [fillS] at q
    split at q
    · refine fillS_tok q (fun p hm => hp p (by simp [hm])) fun l hl v hv s hs => ?_
      rcases List.mem_or_eq_of_mem_set hl with hl | rfl
      · exact hcs l hl v hv s hs
      · exact hp (j, x) (by simp) s (by have := cells_tok1 hv s hs; rwa [V.fix_toks] at this)
    · cases q
def toksOf (ρ : Operand → V) (o : Oper) : List Nat := o.op.operands.toList.flatMap fun x => (ρ x).toks
theorem mem_toksOf {ρ : Operand → V} {o : Oper} {x : Operand} (hx : x ∈ o.op.operands.toList) : ∀ s ∈ (ρ x).toks, s ∈ toksOf ρ o := fun s hs => List.mem_flatMap.2 ⟨x, hx, hs⟩

theorem exec_0 {o : Oper} {ρ : Operand → V} (hc : cls tb md o = 0) {v : V} (e : exec P tb md call o ρ h = some (v, h1)) : h1 = h ∧ ∀ h', exec P tb md call o ρ h' = some (v, h') := by
  obtain ⟨dst, op, type, pos, after, guard⟩ := o
  unfold cls at hc
  unfold exec at e ⊢
  cases op
  case pick c a b => 
    simp only at e ⊢
    split at e
    · rename_i t ht; cases e; exact ⟨rfl, fun h' => by simp only [ht]⟩
    · cases e
  case build t ps =>
    simp only at e ⊢
    split at e
    · simp only [Option.map_eq_some_iff] at e ⊢; obtain ⟨cs, e, r⟩ := e; cases r; exact ⟨rfl, fun h' => ⟨cs, e, rfl⟩⟩
    · cases e
  case binOp =>
    simp only [Option.bind_eq_some_iff, Option.map_eq_some_iff] at e ⊢
    obtain ⟨a, ha, b, hb, uu, e, r⟩ := e
    cases r; exact ⟨rfl, fun h' => ⟨a, ha, b, hb, _, e, rfl⟩⟩
  case unOp =>
    simp only [Option.bind_eq_some_iff, Option.map_eq_some_iff] at e ⊢
    obtain ⟨a, ha, uu, e, r⟩ := e
    cases r; exact ⟨rfl, fun h' => ⟨a, ha, _, e, rfl⟩⟩
  case convert =>
    simp only at e hc ⊢
    split at e
    · rename_i ht; simp [ht] at hc
    · rename_i hno
      simp only [Option.bind_eq_some_iff, Option.map_eq_some_iff] at e
      obtain ⟨a, ha, uu, e, r⟩ := e
      cases r
      refine ⟨rfl, fun h' => ?_⟩
      simp only [Option.bind_eq_some_iff, Option.map_eq_some_iff]
      exact ⟨a, ha, _, e, rfl⟩
  case move x =>
    simp only at e ⊢
    split at e
    · rename_i hx
      split at e
      · rename_i hy
        cases e
        exact ⟨rfl, fun h' => by simp only [hx, hy]⟩
      · cases e
    · cases e
      exact ⟨rfl, fun h' => rfl⟩
  case index =>
    simp only [Option.bind_eq_some_iff, Option.map_eq_some_iff] at e ⊢
    obtain ⟨a, ha, b, hb, uu, e, r⟩ := e
    cases r; exact ⟨rfl, fun h' => ⟨a, ha, b, hb, _, e, rfl⟩⟩
  case slice t x lo hi mx =>
    simp only at e hc ⊢
    split at hc
    · rename_i ht
      simp only [ht] at e ⊢
      simp only [Option.bind_eq_some_iff] at e
      obtain ⟨a, ha, l, hl, r, hr, e⟩ := e
      split at e
      · rename_i q
        simp only [Option.map_eq_some_iff] at e
        obtain ⟨uu, e, r'⟩ := e
        cases r'
        refine ⟨rfl, fun h' => ?_⟩
        simp only [Option.bind_eq_some_iff]
        exact ⟨a, ha, l, hl, r, hr, by rw [if_pos q, e]; rfl⟩
      · cases e
    · cases hc
  case makeFunc =>
    simp only at e ⊢
    split at e
    · rename_i q; cases e; exact ⟨rfl, fun h' => by rw [if_pos q]⟩
    · cases e
  case field =>
    simp only at e ⊢
    split at e
    · split at e
      · simp only [Option.map_eq_some_iff] at e ⊢
        obtain ⟨uu, e, r⟩ := e
        cases r
        rename_i hf
        exact ⟨rfl, fun h' => by simp [e]⟩
      · cases e
    · cases e
  case extract =>
    simp only at e ⊢
    split at e
    · simp only [Option.map_eq_some_iff] at e ⊢
      obtain ⟨uu, e, r⟩ := e
      cases r
      exact ⟨rfl, fun h' => ⟨_, e, rfl⟩⟩
    · cases e
  case call c =>
    simp only at hc
    split at hc
    · split at hc <;> cases hc
    · split at hc
      · cases hc
      · split at hc <;> cases hc
    · cases hc
  all_goals (simp only at hc; first | cases hc | (split at hc <;> cases hc))

theorem homeCs_loc (d : Nat) : ∀ {cs : List V}, (∀ v ∈ cs, zOk v = true) → ∀ k, LocD d fun h => some (homeCs d k cs h)
  | [], _, k => LocD.pure []
  | c :: cs, hz, k => by
    have h1 : LocD d fun h => some (homeC d k c h) := by
      have := hz c (by simp)
      cases c <;> simp [zOk] at this
      case d x => exact LocD.pure _
      case nl f sz => exact LocD.new d k _ fun g => V.own d k g
    have := h1.bind (g := fun v h => some ((v :: (homeCs d (k + 1) cs h).1), (homeCs d (k + 1) cs h).2)) fun v =>
      (homeCs_loc d (fun v hv => hz v (by simp [hv])) (k + 1)).map fun vs => v :: vs
    exact this
theorem exec_1 (T : TbOk P tb) {o : Oper} {ρ : Operand → V} (hf : ∀ g, ρ (.func g) = .d (.p (.func (.func g) #[] #[]))) (hc : cls tb md o = 1) : ∃ d, o.dst = some d ∧ Step1 d (toksOf ρ o) (exec P tb md call o ρ) := by
  have hd : ∃ d, o.dst = some d := by
    cases hd : o.dst with
    | some d => exact ⟨d, rfl⟩
    | none =>
      exfalso
      unfold cls at hc
      split at hc <;> (try simp [hd] at hc)
      all_goals (split at hc <;> (try simp at hc))
  obtain ⟨d, hd⟩ := hd
  refine ⟨d, hd, ?_⟩
  have hm := @mem_toksOf ρ o
  generalize toksOf ρ o = F at *
  obtain ⟨dst, op, type, pos, after, guard⟩ := o
  subst hd
  unfold cls at hc
  have mv : ∀ x, (∀ s ∈ (ρ x).toks, s ∈ F) → Step1 d F fun h => (match ρ x with
    | .nl _ _ => match tb type with
      | some ⟨_, _, .sl e, _⟩ => some (.own d 0 ((h d 0).1 + 1), h.new d 0 (.row true (flOf tb e) (szOf tb e) []))
      | _ => none
    | v => some (v, h)) := fun x hx => by
    split
    · split
      · exact Step1.loc (LocD.new d 0 _ fun g => V.own d 0 g)
      · exact Step1.none
    · exact Step1.loc (LocD.pure _)
  cases op
  case load t a =>
    exact Step1.read (g := fun h => loadV tb h t (ρ a)) fun h h' v H e => loadV_er H (hm (x := a) (by simp [Op.operands])) e
  case nilCheck x =>
    have := Step1.read (d := d) (F := F) (g := fun h => if alive h (ρ x) then some (ρ x) else none) fun h h' v H e => by
      split at e
      · rename_i q; rw [if_pos (alive_er H (hm (x := x) (by simp [Op.operands])) q)]; exact e
      · cases e
    refine this.congr fun h => ?_
    simp only [exec]
    split <;> rfl
  case fieldAddr st x f =>
    have := Step1.read (d := d) (F := F) (g := fun h => if alive h (ρ x) then some (ρ x) else none) fun h h' v H e => by
      split at e
      · rename_i q; rw [if_pos (alive_er H (hm (x := x) (by simp [Op.operands])) q)]; exact e
      · cases e
    have ex : ∀ h, exec P tb md call ⟨some d, .fieldAddr st x f, type, pos, after, guard⟩ ρ h = match tb st with
      | some ⟨_, _, .st fs, _⟩ => match fs[f]? with
        | some (off, ft) => if szOf tb ft = 0 then none else if alive h (ρ x) then some ((ρ x).plus off, h) else none
        | none => none
      | _ => none := fun h => rfl
    refine Step1.congr ?_ ex
    split
    · split
      · split
        · exact Step1.none
        · rename_i off _ _ _
          refine (Step1.read (g := fun h => if alive h (ρ x) then some ((ρ x).plus off) else none) fun h h' v H e => ?_).congr fun h => ?_
          · split at e
            · rename_i q; rw [if_pos (alive_er H (hm (x := x) (by simp [Op.operands])) q)]; exact e
            · cases e
          · split <;> rfl
      · exact Step1.none
    · exact Step1.none
  case alloc e =>
    unfold exec; simp only [Option.getD_some]
    cases hi : tb e with
    | none => exact Step1.none
    | some i =>
      obtain ⟨_, _, _, _, _, _, _, _, hz, _⟩ := T.ok _ _ hi
      have hz : ∀ v ∈ i.z, zOk v = true := fun v hv => List.all_eq_true.1 hz v hv
      have h1 := ((homeCs_loc d hz 1000).bind (g := fun cs h => some (V.ptr d 0 ((h d 0).1 + 1) 0, h.new d 0 (.box cs))) fun cs => LocD.new d 0 (.box cs) fun g => V.ptr d 0 g 0)
      exact Step1.loc h1
  case makeSlice t l c =>
    unfold exec; simp only [Option.getD_some]
    split
    · split
      · split
        · exact Step1.loc (LocD.new d 0 _ fun g => V.own d 0 g)
        · exact Step1.none
      · exact Step1.none
    · exact Step1.none
  case indexAddr t x ix =>
    have := Step1.read (d := d) (F := F) (g := fun h => match tb t, rowOf h (ρ x), (ρ ix).val1 with
      | some ⟨_, _, .sl e, _⟩, some (f, sz, xs), some (.int _ i) =>
        if 0 ≤ i ∧ i < xs.length ∧ (tb e).isSome ∧ sz = szOf tb e then some ((ρ x).idx f sz xs i.toNat) else none
      | _, _, _ => none) fun h h' v H e => by
      split at e
      · rename_i q1 q2 q3
        rw [q1, rowOf_er H (hm (x := x) (by simp [Op.operands])) q2, q3]
        exact e
      · cases e
    refine this.congr fun h => ?_
    simp only [exec]
    split
    · rename_i q1 q2 q3
      simp only [q1, q2, q3]
      split <;> rfl
    · rename_i q
      split
      · rename_i a b c; exact (q _ _ _ _ _ _ _ _ _ a b c).elim
      · rfl
  case buildSlice t len parts =>
    unfold exec; simp only [Option.getD_some]
    split
    · rename_i e _ _
      split
      · rename_i ie hie
        split
        · cases hr : fillS tb e ρ parts.toList (List.replicate len ie.z) with
          | none => exact Step1.none
          | some rows =>
            have hrows : ∀ l ∈ rows, ∀ v ∈ l, ∀ s ∈ v.tok1, s ∈ F := fillS_tok hr (fun p hp => hm (by simp only [Op.operands, List.mem_map, List.toList_toArray]; exact ⟨p, hp, rfl⟩)) fun l hl v hv s hs => by
              obtain ⟨_, rfl⟩ := List.mem_replicate.1 hl
              obtain ⟨_, _, _, _, _, _, _, _, hz, _⟩ := T.ok _ _ hie
              have := List.all_eq_true.1 hz v hv
              cases v <;> simp [zOk] at this <;> simp [V.tok1] at hs
            have := Step1.fzLoc (d := d) (toDss_fz hrows) (g := fun xs h => some (V.own d 0 ((h d 0).1 + 1), h.new d 0 (.row true (ie.fl && xs.all fun x => x.all D.isP) ie.sz xs))) fun xs => LocD.new d 0 _ fun g => V.own d 0 g
            refine this.congr fun h => ?_
            simp only [Option.bind_some]
            cases toDss rows h <;> rfl
        · exact Step1.none
      · exact Step1.none
    · exact Step1.none
  case call c =>
    simp only at hc
    obtain ⟨callee, args, argTypes⟩ := c
    split at hc
    · rename_i hb; simp only at hb; subst hb
      unfold exec; simp only [Option.getD_some]
      split
      · rename_i x t q1 q2
        split
        · refine (Step1.read (g := fun h => (rowOf h (ρ x)).map fun r => .d (.p (.int .i64 r.2.2.length))) fun h h' v H e => ?_).congr fun h => ?_
          · simp only [Option.map_eq_some_iff] at e ⊢
            obtain ⟨r, e, q⟩ := e
            exact ⟨r, rowOf_er H (hm (x := x) (by simp [Op.operands, Call.operands, q1])) e, q⟩
          · simp; rfl
        · refine (Step1.read (g := fun h => (ρ x).val1.bind fun a => (sc P (Builtin.len_ #[t] type #[a]))) fun h h' v H e => e).congr fun h => ?_
          cases (ρ x).val1 <;> rfl
        · exact Step1.none
      · exact Step1.none
    · rename_i g hb; simp only at hb; subst hb
      split at hc
      · cases hc
      rename_i hq
      simp only [Bool.or_eq_true, not_or, Bool.not_eq_true] at hq
      obtain ⟨⟨hke, hho⟩, hq⟩ := hq
      have hke : (keepL md g).isEmpty = true := by simpa using hke
      have hho : (homeL md g).isEmpty = true := by simpa using hho
      unfold exec
      simp only [hf, hke, hho, cond_true, Bool.true_or]
      split
      · refine callV_1 (fun i => ?_) (fun ty hty n b e z ht => ?_) fun v hv => ?_
        · rw [List.getD_eq_getElem?_getD]
          cases hi : (md g).1[i]? with
          | none => rfl
          | some b => exact (by simpa using (List.any_eq_false.1 hq.1) b (List.mem_of_getElem? hi))
        · have := hq.2
          have := List.any_eq_false.1 this ty hty
          simp [ht] at this
        · obtain ⟨x, hx, rfl⟩ := List.mem_map.1 hv
          exact hm (by simp only [Op.operands, Call.operands, Array.toList_append, List.mem_append]; exact .inr hx)
      · exact Step1.none
    · cases hc
  all_goals (simp only at hc; first | cases hc | (split at hc <;> cases hc))

/-! ### Who reads, and who changes at known slots -/
def RdOk (F : List Nat) (f : Hp → Option (V × Hp)) : Prop := ∀ h v h1, f h = some (v, h1) → h1 = h ∧ ∀ h', Agr F h h' → f h' = some (v, h')
theorem RdOk.read {F : List Nat} {g : Hp → Option V} (q : ∀ h h' v, Agr F h h' → g h = some v → g h' = some v) : RdOk F fun h => (g h).map fun v => (v, h) := by
  intro h v h1 e
  simp only [Option.map_eq_some_iff] at e
  obtain ⟨v1, e, r⟩ := e
  cases r
  exact ⟨rfl, fun h' H => by simp only [q h h' _ H e, Option.map_some]⟩
theorem RdOk.congr {F : List Nat} {f g : Hp → Option (V × Hp)} (q : RdOk F f) (e : ∀ h, g h = f h) : RdOk F g := by
  have : g = f := funext e
  rw [this]; exact q
theorem RdOk.none {F : List Nat} : RdOk F fun _ => none := fun _ _ _ e => by cases e
theorem exec_read {o : Oper} {ρ : Operand → V} (hr : isRead o = true) : RdOk (toksOf ρ o) (exec P tb md call o ρ) := by
  have hm := @mem_toksOf ρ o
  generalize toksOf ρ o = F at *
  obtain ⟨dst, op, type, pos, after, guard⟩ := o
  simp only [isRead, Bool.and_eq_true] at hr
  obtain ⟨_, hr⟩ := hr
  cases op
  case load t a => exact RdOk.read (g := fun h => loadV tb h t (ρ a)) fun h h' v H e => loadV_er H (hm (x := a) (by simp [Op.operands])) e
  case nilCheck x =>
    have := RdOk.read (F := F) (g := fun h => if alive h (ρ x) then some (ρ x) else none) fun h h' v H e => by
      split at e
      · rename_i q; rw [if_pos (alive_er H (hm (x := x) (by simp [Op.operands])) q)]; exact e
      · cases e
    refine this.congr fun h => ?_
    simp only [exec]
    split <;> rfl
  case fieldAddr st x f =>
    have ex : ∀ h, exec P tb md call ⟨dst, .fieldAddr st x f, type, pos, after, guard⟩ ρ h = match tb st with
      | some ⟨_, _, .st fs, _⟩ => match fs[f]? with
        | some (off, ft) => if szOf tb ft = 0 then none else if alive h (ρ x) then some ((ρ x).plus off, h) else none
        | none => none
      | _ => none := fun h => rfl
    refine RdOk.congr ?_ ex
    split
    · split
      · split
        · exact RdOk.none
        · rename_i off _ _ _
          refine (RdOk.read (g := fun h => if alive h (ρ x) then some ((ρ x).plus off) else none) fun h h' v H e => ?_).congr fun h => ?_
          · split at e
            · rename_i q; rw [if_pos (alive_er H (hm (x := x) (by simp [Op.operands])) q)]; exact e
            · cases e
          · split <;> rfl
      · exact RdOk.none
    · exact RdOk.none
  case indexAddr t x ix =>
    have := RdOk.read (F := F) (g := fun h => match tb t, rowOf h (ρ x), (ρ ix).val1 with
      | some ⟨_, _, .sl e, _⟩, some (f, sz, xs), some (.int _ i) =>
        if 0 ≤ i ∧ i < xs.length ∧ (tb e).isSome ∧ sz = szOf tb e then some ((ρ x).idx f sz xs i.toNat) else none
      | _, _, _ => none) fun h h' v H e => by
      split at e
      · rename_i q1 q2 q3
        rw [q1, rowOf_er H (hm (x := x) (by simp [Op.operands])) q2, q3]
        exact e
      · cases e
    refine this.congr fun h => ?_
    simp only [exec]
    split
    · rename_i q1 q2 q3
      simp only [q1, q2, q3]
      split <;> rfl
    · rename_i q
      split
      · rename_i a b c; exact (q _ _ _ _ _ _ _ _ _ a b c).elim
      · rfl
  all_goals cases hr
theorem mod_at {h : Hp} {s k s' : Nat} {ob : Option Ob} (q : s' ≠ s) : h.mod s k ob s' = h s' := by
  funext k'; simp [Hp.mod, Hp.put_def, q]
theorem new_at {h : Hp} {s k s' : Nat} {ob : Ob} (q : s' ≠ s) : h.new s k ob s' = h s' := by
  funext k'; simp [Hp.new, Hp.put_def, q]
theorem toD_foot {v : V} {h h1 : Hp} {x : D} {s' : Nat} (q : s' ∉ v.tok1) (e : v.toD h = some (x, h1)) : h1 s' = h s' := by
  obtain ⟨fz, a, rfl, _⟩ := toD_fz (F := v.tok1) (fun _ h => h) h x h1 e
  funext k
  have : fz s' k = false := by cases hq : fz s' k with
    | false => rfl
    | true => exact absurd (a s' k hq) q
  simp [fzs, this]
theorem renC_foot {c s k v} {h : Hp} {s' : Nat} (q : s' ≠ s) (q2 : s' ∉ v.tok1) : (renC c s k v h).2 s' = h s' := by
  unfold renC
  split
  · rename_i s1 k1 g1
    have q3 : s' ≠ s1 := fun e => q2 (by simp [V.tok1, e])
    cases c s1 k1
    · rfl
    · simp only [cond_true]
      split
      · simp only [new_at q, mod_at q3]
      · rfl
  · rfl
theorem homeC_foot {s k v} {h : Hp} {s' : Nat} (q : s' ≠ s) (q2 : s' ∉ v.tok1) : (homeC s k v h).2 s' = h s' := by
  unfold homeC
  split
  · exact new_at q
  · exact renC_foot q q2
theorem homeCs_foot {s s' : Nat} (q : s' ≠ s) : ∀ {vs : List V} {k : Nat} {h : Hp}, (∀ v ∈ vs, s' ∉ v.tok1) → (homeCs s k vs h).2 s' = h s'
  | [], k, h, _ => rfl
  | v :: vs, k, h, hv => by
    simp only [homeCs]
    rw [homeCs_foot q fun v hm => hv v (by simp [hm]), homeC_foot q (hv v (by simp))]
theorem homeAt_foot {s k v} {h : Hp} {s' : Nat} (q : s' ≠ s) (q2 : s' ∉ v.toks) : (homeAt s k v h).2 s' = h s' := by
  unfold homeAt
  split
  · exact homeCs_foot q fun v hm hs => q2 (List.mem_flatMap.2 ⟨v, hm, hs⟩)
  · rename_i hno
    refine homeC_foot q ?_
    cases v <;> first | exact q2 | exact (hno _ rfl).elim
theorem homeV_foot {a v} {h : Hp} {s' : Nat} (q1 : s' ∉ a.toks) (q2 : s' ∉ v.toks) : (homeV a v h).2 s' = h s' := by
  unfold homeV
  split
  · exact homeAt_foot (fun e => q1 (by simp [V.toks, V.tok1, e])) q2
  · rfl
theorem fzs_at {fz : Nat → Nat → Bool} {h : Hp} {s : Nat} (q : ∀ k, fz s k = false) : fzs fz h s = h s := by funext k; simp [fzs, q]
theorem store_foot {t : Nat} {a x : V} {h h1 : Hp} {s' : Nat} (q1 : s' ∉ a.toks) (q2 : s' ∉ x.toks) (e : storeV tb (homeV a x h).2 t a (homeV a x h).1 = some h1) : h1 s' = h s' := by
  rw [← homeV_foot (v := x) (h := h) q1 q2]
  unfold storeV at e
  simp only at e
  split at e
  · rename_i hcond
    clear hcond
    split at e
    · rename_i s k g o
      have q : s' ≠ s := fun e => q1 (by simp [V.toks, V.tok1, e])
      split at e
      · split at e
        · cases e; exact mod_at q
        · cases e
      · cases e
    · rename_i s k g i o
      have q : s' ≠ s := fun e => q1 (by simp [V.toks, V.tok1, e])
      simp only [Option.bind_eq_some_iff, Prod.exists] at e
      obtain ⟨ys, h2, e2, e⟩ := e
      have hv : (homeV (.ept s k g i o) x h).1 = x := rfl
      have hf := toDs_fz (F := x.toks) (vs := ((homeV (.ept s k g i o) x h).1.fix (elSz tb t)).cells) (fun v hm s1 hu => by
        rw [hv] at hm
        have := cells_tok1 hm s1 hu
        rwa [V.fix_toks] at this)
      obtain ⟨fz, f1, rfl, _⟩ := hf _ _ _ e2
      have hfz : ∀ k, fz s' k = false := fun k => by cases w : fz s' k with
        | false => rfl
        | true => exact absurd (f1 _ _ w) q2
      split at e
      · split at e
        · split at e
          · cases e; rw [mod_at q, fzs_at hfz]
          · cases e
        · cases e
      · cases e
    · cases e
  · cases e
theorem append_foot {e d : Nat} {x y : V} {h h1 : Hp} {v : V} {s' : Nat} (q1 : s' ∉ x.toks) (q2 : s' ≠ d) (hh : appendV tb h e d x y = some (v, h1)) : h1 s' = h s' := by
  unfold appendV at hh
  split at hh
  · rename_i ie _
    split at hh
    · split at hh
      · cases hh; exact new_at q2
      · cases hh
    · rename_i s k g f' sz' ys hx _
      have q : s' ≠ s := fun e => q1 (by rw [← V.fix_toks x ie.q, hx]; simp [V.toks, V.tok1, e])
      split at hh
      · split at hh
        · cases hh; rw [new_at q2, mod_at q]
        · cases hh
      · cases hh
    · cases hh
  · cases hh
theorem own_ne {x : V} {s' : Nat} (q1 : s' ∉ x.toks) : ∀ s k g, x = .own s k g → s' ≠ s := fun s k g e e2 => q1 (by rw [e]; simp [V.toks, V.tok1, e2])
theorem slice_foot {e d : Nat} {x : V} {lo hi mx : Option V} {v : V} {s' : Nat} (q1 : s' ∉ x.toks) (q2 : s' ≠ d) (hh : sliceV tb h e d x lo hi mx = some (v, h1)) : h1 s' = h s' := by
  have q := own_ne q1
  unfold sliceV at hh
  split at hh
  case h_2 => cases hh
  split at hh
  case h_2 => cases hh
  split at hh
  case isFalse => cases hh
  split at hh
  · have q := q _ _ _ rfl
    split at hh
    · cases hh; rw [new_at q2, mod_at q]
    · cases hh; rfl
  · have q := q _ _ _ rfl
    cases hh; rw [mod_at q]
  · cases hh; rfl
theorem sliceM_foot {e : Nat} {x : V} {lo hi mx : Option V} {v : V} {s' : Nat} (q1 : s' ∉ x.toks) (hh : sliceM tb h e x lo hi mx = some (v, h1)) : h1 s' = h s' := by
  have q := own_ne q1
  unfold sliceM at hh
  split at hh
  case h_2 => cases hh
  split at hh
  case isFalse => cases hh
  split at hh
  · have q := q _ _ _ rfl
    cases hh; rw [mod_at q]
  · cases hh; rfl
theorem exec_foot {o : Oper} {ρ : Operand → V} (hfn : ∀ g, ρ (.func g) = .d (.p (.func (.func g) #[] #[]))) (hf : isFoot md o = true) {v : V} (e : exec P tb md call o ρ h = some (v, h1)) {s' : Nat} (q1 : s' ∉ toksOf ρ o) (q2 : ∀ d, o.dst = some d → s' ≠ d) : h1 s' = h s' := by
  have hm := @mem_toksOf ρ o
  generalize toksOf ρ o = F at *
  obtain ⟨dst, op, type, pos, after, guard⟩ := o
  simp only [isFoot] at hf
  cases op
  case store t a x =>
    simp only [exec, Option.map_eq_some_iff] at e
    obtain ⟨h2, e, r⟩ := e
    cases r
    refine store_foot (fun hs => q1 (hm (x := a) (by simp [Op.operands]) _ hs)) (fun hs => q1 (hm (x := x) (by simp [Op.operands]) _ ?_)) e
    rwa [V.fix_toks] at hs
  case assign x =>
    obtain ⟨d, hd⟩ := Option.isSome_iff_exists.1 hf
    have hd : dst = some d := hd
    subst hd
    have hne := q2 d rfl
    have ht : s' ∉ (ρ x).toks := fun hs => q1 (hm (x := x) (by simp [Op.operands]) _ hs)
    simp only [exec, Option.getD_some] at e
    split at e
    · split at e
      · cases e; exact new_at hne
      · cases e
    · have : s' ∉ (ρ x).tok1 := fun hs => ht (by cases hx : ρ x <;> rw [hx] at hs <;> first | exact hs | cases hs)
      rw [Bool.cond_eq_ite] at e
      split at e
      · simp only [Option.map_eq_some_iff, Prod.exists] at e
        obtain ⟨y, h2, e1, e⟩ := e
        cases e
        exact toD_foot this e1
      have e2 := congrArg (fun r => r.map (·.2)) e
      simp only [Option.map_some] at e2
      rw [← Option.some.inj e2]
      exact renC_foot hne this
  case call c =>
    obtain ⟨callee, args, argTypes⟩ := c
    simp only at hf
    split at hf
    · obtain ⟨d, hd⟩ := Option.isSome_iff_exists.1 hf
      have hd : dst = some d := hd
      subst hd
      simp only [exec, Option.getD_some] at e
      split at e
      · rename_i x y t t' p1 p2
        split at e
        · split at e
          · exact append_foot (fun hs => q1 (hm (x := x) (by simp [Op.operands, Call.operands, p1]) _ hs)) (q2 d rfl) e
          · cases e
        · cases e
      · cases e
    · rename_i g
      simp only [Bool.and_eq_true, Bool.not_eq_true'] at hf
      simp only [exec, hfn, hf.1.1, hf.1.2, cond_true, Bool.false_or] at e
      split at e
      · cases hh0 : homedAll h (args.toList.map ρ) && outOk tb (outL md g) (fixTys md g argTypes.toList) (args.toList.map ρ) with
        | false => rw [hh0] at e; cases e
        | true =>
          rw [hh0, cond_true] at e
          have hh : homedAll h (args.toList.map ρ) = true := ((Bool.and_eq_true _ _).mp hh0).1
          have := callV_onD (tb := tb) (md := md) (call := call) (d := s') (N := h s') (g := g) (tys := fixTys md g argTypes.toList) (dst := dst) (h := h) (fun v hv => by
            obtain ⟨x, hx, rfl⟩ := List.mem_map.1 hv
            exact fun hs => q1 (hm (x := x) (by simp only [Op.operands, Call.operands, Array.toList_append, List.mem_append]; exact .inr hx) _ hs)) hh (fun i hi e => q2 i hi e.symm)
          rw [onD_self, e] at this
          simp only [Option.map_some, lift, Option.some.injEq, Prod.mk.injEq] at this
          rw [this.2, onD_at]
      · cases e
    · cases hf
  case slice t x lo hi mx =>
    obtain ⟨d, hd⟩ := Option.isSome_iff_exists.1 hf
    have hd : dst = some d := hd
    subst hd
    have hne := q2 d rfl
    have ht : s' ∉ (ρ x).toks := fun hs => q1 (hm (x := x) (by simp [Op.operands]) _ hs)
    simp only [exec, Option.getD_some] at e
    split at e
    · cases mx with
      | none => exact slice_foot ht hne e
      | some m => exact sliceM_foot ht e
    · simp only [Option.bind_eq_some_iff] at e
      obtain ⟨a, ha, l, hl, r, hr, e⟩ := e
      split at e
      · simp only [Option.map_eq_some_iff] at e
        obtain ⟨uu, e, r'⟩ := e
        cases r'; rfl
      · cases e
    · cases e
  all_goals cases hf
end Go.Ev
