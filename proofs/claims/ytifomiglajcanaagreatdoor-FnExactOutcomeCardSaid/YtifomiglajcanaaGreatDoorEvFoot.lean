/- The evaluator: EvFoot. -/
import Derived.Test.YtifomiglajcanaaGreatDoorEvDef
set_option linter.unusedSimpArgs false
set_option linter.unusedVariables false
namespace Go.Ev
set_option linter.unusedVariables false

/-! ### A slot that a call does not name -/
/-- The heap with what is named by d replaced. -/
def onD (d : Nat) (N : Nat → Nat × Option Ob) (h : Hp) : Hp := fun s k => if s = d then N k else h s k
variable {d : Nat} {N : Nat → Nat × Option Ob} {h : Hp} {tb : Tb} {md : Md} {call : CallF}
abbrev lift {α : Type} (d : Nat) (N : Nat → Nat × Option Ob) (r : α × Hp) : α × Hp := (r.1, onD d N r.2)
theorem onD_ne {s k : Nat} (q : s ≠ d) : onD d N h s k = h s k := if_neg q
theorem get_onD {s k g : Nat} (q : s ≠ d) : (onD d N h).get s k g = h.get s k g := by simp only [Hp.get_def]; rw [onD_ne q]
theorem put_onD {s k : Nat} {x : Nat × Option Ob} (q : s ≠ d) : (onD d N h).put s k x = onD d N (h.put s k x) := by
  funext s' k'
  simp only [onD, Hp.put_def]
  by_cases e : s' = d
  · subst e; rw [if_neg (fun z => q z.1.symm), if_pos rfl, if_pos rfl]
  · rw [if_neg e, if_neg e]
theorem mod_onD {s k : Nat} {ob : Option Ob} (q : s ≠ d) : (onD d N h).mod s k ob = onD d N (h.mod s k ob) := by
  unfold Hp.mod; rw [onD_ne q, put_onD q]
theorem new_onD {s k : Nat} {ob : Ob} (q : s ≠ d) : (onD d N h).new s k ob = onD d N (h.new s k ob) := by
  unfold Hp.new; rw [onD_ne q, put_onD q]
theorem outCell_onD {v : V} (q : d ∉ v.tok1) : outCell (onD d N h) v = (outCell h v).map (lift d N) := by
  cases v <;> try rfl
  rename_i s k g
  have hs : s ≠ d := fun e => q (by simp [V.tok1, e])
  simp only [outCell, get_onD hs]
  split <;> simp [lift, mod_onD hs]
theorem outCells_onD : ∀ {vs : List V} {h : Hp}, (∀ v ∈ vs, d ∉ v.tok1) → outCells vs (onD d N h) = (outCells vs h).map (lift d N)
  | [], h, _ => rfl
  | v :: vs, h, q => by
    simp only [outCells, outCell_onD (q v (by simp))]
    cases outCell h v with
    | none => rfl
    | some r =>
      obtain ⟨t, h1⟩ := r
      simp only [Option.map_some, Option.bind_some, lift]
      rw [outCells_onD (h := h1) (fun v hv => q v (by simp [hv]))]
      cases outCells vs h1 <;> rfl
theorem roCell_onD {v : V} (q : d ∉ v.tok1) : roCell (onD d N h) v = roCell h v := by
  cases v <;> try rfl
  rename_i s k g
  have hs : s ≠ d := fun e => q (by simp [V.tok1, e])
  simp only [roCell, get_onD hs]
theorem roCell_sh {v : V} (q : d ∉ v.tok1) {t : T} {a : List (Nat × Nat)} (e : roCell h v = some (t, a)) : ∀ p ∈ a, p.1 ≠ d := by
  cases v <;> simp only [roCell] at e
  case d | nl => simp only [Option.some.injEq, Prod.mk.injEq] at e; rw [← e.2]; simp
  case own s k g =>
    have hs : s ≠ d := fun e => q (by simp [V.tok1, e])
    split at e
    · simp only [Option.some.injEq, Prod.mk.injEq] at e
      rw [← e.2]
      intro p hp
      split at hp
      · simp at hp; subst hp; exact hs
      · cases hp
    · cases e
  all_goals cases e
theorem roCells_onD : ∀ {vs : List V}, (∀ v ∈ vs, d ∉ v.tok1) → roCells (onD d N h) vs = roCells h vs
  | [], _ => rfl
  | v :: vs, q => by simp only [roCells, roCell_onD (q v (by simp)), roCells_onD (vs := vs) (fun v hv => q v (List.mem_cons_of_mem _ hv))]
theorem roCells_sh : ∀ {vs : List V} {ts : List T} {a : List (Nat × Nat)}, (∀ v ∈ vs, d ∉ v.tok1) → roCells h vs = some (ts, a) → ∀ p ∈ a, p.1 ≠ d
  | [], ts, a, _, e => by simp only [roCells, Option.some.injEq, Prod.mk.injEq] at e; rw [← e.2]; simp
  | v :: vs, ts, a, q, e => by
    simp only [roCells, Option.bind_eq_some_iff, Option.map_eq_some_iff, Prod.exists, Prod.mk.injEq] at e
    obtain ⟨t, a1, e1, ts', a2, e2, _, rfl⟩ := e
    intro p hp
    rcases List.mem_append.1 hp with hp | hp
    · exact roCell_sh (q v (by simp)) e1 p hp
    · exact roCells_sh (fun v hv => q v (by simp [hv])) e2 p hp
abbrev A4 := T × Hp × List (Nat × Nat) × List Lent
abbrev lift4 {α : Type} (d : Nat) (N : Nat → Nat × Option Ob) (r : α × Hp × List (Nat × Nat) × List Lent) : α × Hp × List (Nat × Nat) × List Lent := (r.1, onD d N r.2.1, r.2.2)
theorem argR_onD {cons : Nat} {v : V} (q : d ∉ v.tok1) : argR cons (onD d N h) v = (argR cons h v).map (lift4 d N) := by
  unfold argR
  split
  · rw [roCell_onD q]
    cases roCell h v <;> rfl
  · rw [outCell_onD q]
    cases outCell h v with
    | none => rfl
    | some r =>
      obtain ⟨t, h1⟩ := r
      cases t <;> rfl
  · cases v <;> try rfl
    rename_i s k g
    have hs : s ≠ d := fun e => q (by simp [V.tok1, e])
    simp only [get_onD hs]
    split <;> simp [lift4, mod_onD hs]
theorem argR_sh {cons : Nat} {v : V} (q : d ∉ v.tok1) {r : A4} (e : argR cons h v = some r) : (∀ p ∈ r.2.2.1, p.1 ≠ d) ∧ ∀ b ∈ r.2.2.2, b.s ≠ d := by
  unfold argR at e
  split at e
  · simp only [Option.map_eq_some_iff, Prod.exists] at e
    obtain ⟨t, a, e, rfl⟩ := e
    exact ⟨roCell_sh q e, by simp⟩
  · split at e
    · cases e; exact ⟨by simp, by simp⟩
    · cases e
  · split at e
    · rename_i s k g
      have hs : s ≠ d := fun e => q (by simp [V.tok1, e])
      split at e
      · cases e; exact ⟨by simp, by simpa using hs⟩
      · cases e
    · cases e
theorem fix_tok {v : V} {q : Bool × Nat} : (v.fix q).toks = v.toks := by cases v <;> rfl
theorem tok1_toks {v : V} (h : d ∉ v.toks) : d ∉ v.tok1 := by
  cases v <;> simp_all [V.toks, V.tok1]
theorem argT_onD {ty cons : Nat} {v : V} (q : d ∉ v.toks) (hh : v.homed h = true) : argT tb ty cons (onD d N h) v = (argT tb ty cons h v).map (lift4 d N) := by
  have q' : d ∉ (v.fix (elSz tb ty)).toks := by rw [fix_tok]; exact q
  have hh' : (v.fix (elSz tb ty)).homed h = true := by cases v <;> exact hh
  unfold argT
  generalize v.fix (elSz tb ty) = v at q' hh'
  cases v
  case agg cs =>
    simp only
    rw [roCells_onD (fun v hv => fun hm => q' (by simp only [V.toks, List.mem_flatMap]; exact ⟨v, hv, hm⟩))]
    cases roCells h cs <;> rfl
  case ptr s k g o =>
    have hs : s ≠ d := fun e => q' (by simp [V.toks, V.tok1, e])
    simp only [get_onD hs]
    unfold V.homed at hh'
    simp only at hh'
    cases hg : h.get s k g with
    | none => rfl
    | some ob =>
      cases ob <;> try rfl
      rename_i cs
      rw [hg] at hh'
      simp only at hh' ⊢
      cases ht : tb ty with
      | none => rfl
      | some ti =>
        obtain ⟨a1, a2, kk, z⟩ := ti
        cases kk <;> try rfl
        rename_i e
        simp only
        split
        · rw [outCells_onD (fun v hv => ?_)]
          · cases outCells ((cs.drop o).take (szOf tb e)) h with
            | none => rfl
            | some r => simp [lift4, mod_onD hs]
          · have := List.all_eq_true.1 hh' v (List.mem_of_mem_drop (List.mem_of_mem_take hv))
            cases v <;> simp [V.tok1] <;> simp [V.atS] at this
            subst this; exact fun e => hs e.symm
        · rfl
  all_goals exact argR_onD (tok1_toks q')
theorem argT_sh {ty cons : Nat} {v : V} (q : d ∉ v.toks) {r : A4} (e : argT tb ty cons h v = some r) : (∀ p ∈ r.2.2.1, p.1 ≠ d) ∧ ∀ b ∈ r.2.2.2, b.s ≠ d := by
  have q' : d ∉ (v.fix (elSz tb ty)).toks := by rw [fix_tok]; exact q
  unfold argT at e
  generalize v.fix (elSz tb ty) = v at q' e
  cases v
  case agg cs =>
    simp only [Option.map_eq_some_iff, Prod.exists] at e
    obtain ⟨t, a, e, rfl⟩ := e
    exact ⟨roCells_sh (fun v hv => fun hm => q' (by simp only [V.toks, List.mem_flatMap]; exact ⟨v, hv, hm⟩)) e, by simp⟩
  case ptr s k g o =>
    have hs : s ≠ d := fun e => q' (by simp [V.toks, V.tok1, e])
    simp only at e
    split at e
    · split at e
      · simp only [Option.map_eq_some_iff, Prod.exists] at e
        obtain ⟨t, a, e, rfl⟩ := e
        exact ⟨by simp, by simpa using hs⟩
      · cases e
    · cases e
  all_goals exact argR_sh (tok1_toks q') e
theorem noPtr_homed {v : V} (q : v.noPtr = true) (h : Hp) : v.homed h = true := by cases v <;> simp_all [V.noPtr, V.homed]
theorem argTs_onD {cons : List Nat} : ∀ {vs : List V} {tys : List Nat} {i : Nat} {h : Hp}, (∀ v ∈ vs, d ∉ v.toks) → homedAll h vs = true → argTs tb cons i tys vs (onD d N h) = (argTs tb cons i tys vs h).map (lift4 d N)
  | [], tys, i, h, _, _ => by cases tys <;> rfl
  | v :: vs, [], i, h, _, _ => rfl
  | v :: vs, ty :: tys, i, h, q, hh => by
    simp only [homedAll, Bool.and_eq_true] at hh
    simp only [argTs, argT_onD (q v (by simp)) hh.1]
    cases argT tb ty (cons.getD i 0) h v with
    | none => rfl
    | some r =>
      obtain ⟨t, h1, a, b⟩ := r
      simp only [Option.map_some, Option.bind_some, lift4]
      have h2 : homedAll h1 vs = true := by
        cases vs with
        | nil => rfl
        | cons v2 vs2 =>
          have := hh.2
          simp only [List.all_cons, Bool.and_eq_true] at this
          simp only [homedAll, Bool.and_eq_true]
          exact ⟨noPtr_homed this.1 _, this.2⟩
      rw [argTs_onD (fun v hv => q v (by simp [hv])) h2]
      cases argTs tb cons (i + 1) tys vs h1 <;> rfl
theorem argTs_sh {cons : List Nat} : ∀ {vs : List V} {tys : List Nat} {i : Nat} {h : Hp}, (∀ v ∈ vs, d ∉ v.toks) → ∀ {r : List T × Hp × List (Nat × Nat) × List Lent}, argTs tb cons i tys vs h = some r → (∀ p ∈ r.2.2.1, p.1 ≠ d) ∧ ∀ b ∈ r.2.2.2, b.s ≠ d
  | [], tys, i, h, _, r, e => by
    have : r = ([], h, [], []) := by cases tys <;> (simp only [argTs, Option.some.injEq] at e; exact e.symm)
    subst this
    exact ⟨by simp, by simp⟩
  | v :: vs, [], i, h, _, r, e => by simp [argTs] at e
  | v :: vs, ty :: tys, i, h, q, r, e => by
    simp only [argTs, Option.bind_eq_some_iff, Option.map_eq_some_iff, Prod.exists] at e
    obtain ⟨t, h1, a, b, e1, ts, h2, a', b', e2, rfl⟩ := e
    obtain ⟨x1, x2⟩ := argT_sh (q v (by simp)) e1
    obtain ⟨y1, y2⟩ := argTs_sh (fun v hv => q v (by simp [hv])) e2
    refine ⟨fun p hp => ?_, fun b hb => ?_⟩
    · rcases List.mem_append.1 hp with hp | hp
      · exact x1 p hp
      · exact y1 p hp
    · rcases List.mem_append.1 hb with hb | hb
      · exact x2 b hb
      · exact y2 b hb
theorem ldCell_onD {s k : Nat} {t : T} (q : s ≠ d) : ldCell s k t (onD d N h) = (ldCell s k t h).map (lift d N) := by
  cases t <;> try rfl
  simp only [ldCell, Option.map_some, lift, onD_ne q, new_onD q]
theorem ldCells_onD {s : Nat} (q : s ≠ d) : ∀ {ts : List T} {k : Nat} {h : Hp}, ldCells s k ts (onD d N h) = (ldCells s k ts h).map (lift d N)
  | [], k, h => rfl
  | t :: ts, k, h => by
    simp only [ldCells, ldCell_onD q]
    cases ldCell s k t h with
    | none => rfl
    | some r =>
      obtain ⟨v, h1⟩ := r
      simp only [Option.map_some, Option.bind_some, lift]
      rw [ldCells_onD q (h := h1)]
      cases ldCells s (k + 1) ts h1 <;> rfl
theorem ldT_onD {s k : Nat} {t : T} (q : s ≠ d) : ldT s k t (onD d N h) = (ldT s k t h).map (lift d N) := by
  cases t
  case agg ts =>
    simp only [ldT, ldCells_onD q]
    cases ldCells s (k + 1) ts h <;> rfl
  case ptr ts =>
    simp only [ldT, ldCells_onD q]
    cases ldCells s (1000 * (k + 1)) ts h with
    | none => rfl
    | some r => simp [lift, onD_ne q, new_onD q]
  all_goals (simp only [ldT]; exact ldCell_onD q)
theorem ldRs_onD {s : Nat} (q : s ≠ d) : ∀ {ts : List T} {k : Nat} {h : Hp}, ldRs s k ts (onD d N h) = (ldRs s k ts h).map (lift d N)
  | [], k, h => rfl
  | t :: ts, k, h => by
    simp only [ldRs, ldT_onD q]
    cases ldT s k t h with
    | none => rfl
    | some r =>
      obtain ⟨v, h1⟩ := r
      simp only [Option.map_some, Option.bind_some, lift]
      rw [ldRs_onD q (h := h1)]
      cases ldRs s (k + 100) ts h1 <;> rfl
theorem backs_onD : ∀ {bs : List Lent} {ts : List T} {h : Hp}, (∀ b ∈ bs, b.s ≠ d) → backs bs ts (onD d N h) = (backs bs ts h).map (onD d N)
  | [], [], h, _ => rfl
  | [], _ :: _, h, _ => rfl
  | b :: bs, [], h, _ => rfl
  | b :: bs, t :: ts, h, q => by
    have hb := q b (by simp)
    have ih := fun h => backs_onD (bs := bs) (ts := ts) (h := h) (fun b hb => q b (by simp [hb]))
    cases t
    case own f sz xs =>
      simp only [backs, get_onD hb]
      split
      · split
        · split
          · rw [mod_onD hb, ih]
          · rfl
        · rfl
      · rfl
    case ptr us =>
      simp only [backs]
      split
      · rw [ldCells_onD hb]
        cases ldCells b.s (1000 * (b.k + 1) + b.o) us h with
        | none => rfl
        | some r =>
          obtain ⟨vs, h1⟩ := r
          simp only [Option.map_some, Option.bind_some, lift, get_onD hb]
          split
          · rw [mod_onD hb, ih]
          · rfl
      · rfl
    all_goals rfl
theorem freezes_onD : ∀ {a : List (Nat × Nat)} {h : Hp}, (∀ p ∈ a, p.1 ≠ d) → freezes a (onD d N h) = onD d N (freezes a h)
  | [], h, _ => rfl
  | (s, k) :: a, h, q => by
    have hs : s ≠ d := q (s, k) (by simp)
    simp only [freezes, onD_ne hs]
    split
    · rw [mod_onD hs, freezes_onD (fun p hp => q p (by simp [hp]))]
    · rw [freezes_onD (fun p hp => q p (by simp [hp]))]
theorem callV_onD {g : Nat} {tys : List Nat} {vs : List V} {dst : Option Nat} (q : ∀ v ∈ vs, d ∉ v.toks) (hh : homedAll h vs = true) (hd : ∀ i, dst = some i → i ≠ d) : callV tb md call g tys vs dst (onD d N h) = (callV tb md call g tys vs dst h).map (lift d N) := by
  unfold callV
  rw [argTs_onD q hh]
  cases ha : argTs tb (md g).1 0 tys vs h with
  | none => rfl
  | some r =>
    obtain ⟨s1, s2⟩ := argTs_sh q ha
    obtain ⟨ts, h1, shown, lent⟩ := r
    simp only at s1 s2
    simp only [Option.map_some, Option.bind_some, lift4]
    have ho : (shown.all fun (s, k) => ownAt (onD d N h1) s k) = shown.all fun (s, k) => ownAt h1 s k := by
      rw [Bool.eq_iff_iff, List.all_eq_true, List.all_eq_true]
      refine forall_congr' fun p => forall_congr' fun hp => ?_
      obtain ⟨s, k⟩ := p
      simp only [ownAt, onD_ne (s1 _ hp)]
    rw [ho]
    split
    case isFalse => rfl
    cases call g ts with
    | none => rfl
    | some r =>
      obtain ⟨rs, ps⟩ := r
      simp only [Option.bind_some]
      have hf : (if (T.sharesL rs || T.sharesL ps) = true then freezes shown (onD d N h1) else onD d N h1) = onD d N (if (T.sharesL rs || T.sharesL ps) = true then freezes shown h1 else h1) := by
        split
        · exact freezes_onD s1
        · rfl
      rw [hf, backs_onD s2]
      cases backs lent ps (if (T.sharesL rs || T.sharesL ps) = true then freezes shown h1 else h1) with
      | none => rfl
      | some h2 =>
        simp only [Option.map_some, Option.bind_some]
        cases dst with
        | none => rfl
        | some i =>
          simp only
          rw [ldRs_onD (hd i rfl)]
          cases ldRs i 0 rs h2 <;> rfl
end Go.Ev
