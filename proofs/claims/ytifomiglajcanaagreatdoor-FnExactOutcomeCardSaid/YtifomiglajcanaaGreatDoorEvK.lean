/- The evaluator: EvK. -/
import Derived.Test.YtifomiglajcanaaGreatDoorEvP
set_option linter.unusedSimpArgs false
set_option linter.unusedVariables false
namespace Go.Ev
set_option linter.unusedVariables false
variable {P : Program} {tb : Tb} {md : Md} {prim : Prim}

/-! ### Frames and heaps of which some is known -/
def ov : List (Nat × V) → (Nat → V) → Nat → V
  | [], e => e
  | (i, v) :: l, e => fun j => bif Nat.beq j i then v else ov l e j
def AllAt (e : Nat → V) : List (Nat × V) → Prop
  | [] => True
  | (i, v) :: l => e i = v ∧ AllAt e l
theorem beq_ne {a b : Nat} (h : ¬ a = b) : Nat.beq a b = false := by
  cases q : Nat.beq a b with
  | false => rfl
  | true => exact absurd (Nat.eq_of_beq_eq_true q) h
theorem ov_eq : ∀ {l : List (Nat × V)} {e : Nat → V}, AllAt e l → e = ov l e
  | [], e, _ => rfl
  | (i, v) :: l, e, ⟨h1, h2⟩ => by
    funext j
    simp only [ov]
    by_cases hj : j = i
    · subst hj; simp [h1]
    · have : Nat.beq j i = false := beq_ne hj
      rw [this]; exact congrFun (ov_eq h2) j
def hov : List (Nat × Nat × Nat × Option Ob) → Hp → Hp
  | [], h => h
  | (s, k, x) :: l, h => fun s' k' => bif Nat.beq s' s && Nat.beq k' k then x else hov l h s' k'
def AllHp (h : Hp) : List (Nat × Nat × Nat × Option Ob) → Prop
  | [] => True
  | (s, k, x) :: l => h s k = x ∧ AllHp h l
theorem hov_eq : ∀ {l : List (Nat × Nat × Nat × Option Ob)} {h : Hp}, AllHp h l → h = hov l h
  | [], e, _ => rfl
  | (s, k, x) :: l, h, ⟨h1, h2⟩ => by
    funext s' k'
    simp only [hov]
    by_cases hj : s' = s ∧ k' = k
    · obtain ⟨rfl, rfl⟩ := hj; simp [h1]
    · have : (Nat.beq s' s && Nat.beq k' k) = false := by
        rw [Bool.and_eq_false_iff]
        rcases Classical.not_and_iff_not_or_not.1 hj with q | q
        · left; exact beq_ne q
        · right; exact beq_ne q
      rw [this]; exact congrFun (congrFun (hov_eq h2) s') k'
/-- A state of which some is known. -/
def Kn (N : Nat) (l : List (Nat × V)) (hl : List (Nat × Nat × Nat × Option Ob)) (S : St) : Prop := S.n = N ∧ AllAt S.env l ∧ AllHp S.h hl
theorem Kn.eq {N l hl} {S : St} (h : Kn N l hl S) : S = ⟨N, ov l S.env, hov hl S.h⟩ := by
  obtain ⟨n, e, hp⟩ := S
  obtain ⟨h1, h2, h3⟩ := h
  simp only at h1 h2 h3
  subst h1
  rw [← ov_eq h2, ← hov_eq h3]

/-- The generations behind a norm. -/
def h2 (N : Nat) (h : Hp) : Hp := fun s k => (bif Nat.ble N s && Nat.beq k 0 then (h s k).1 else 2, (h s k).2)
theorem norm_h2 (S : St) : S.norm.h = h2 S.n S.norm.h := by
  funext s k
  simp only [h2, St.norm, Hp.nrm]
  cases Nat.ble S.n s && Nat.beq k 0 <;> rfl
/-- A loop. -/
theorem loopW {b : Code} {Q : Out → St → Prop} {α : Type} (N : Nat) (L : α → List (Nat × V)) (H : α → List (Nat × Nat × Nat × Option Ob)) (m : α → Nat) (I : α → Prop)
    (hb : ∀ a, I a → ∀ e h, evP P tb md prim b ⟨N, ov (L a) e, hov (H a) (h2 N h)⟩ fun o S => match o with
      | .nrm => ∃ a', m a' < m a ∧ I a' ∧ Kn N (L a') (H a') S.norm
      | o => Q o S) (a : α) (S : St) (hI : I a) (hS : Kn N (L a) (H a) S.norm) : W P tb md prim (.loop b) S Q := by
  refine W_loop (fun n S => ∃ a, m a = n ∧ I a ∧ Kn N (L a) (H a) S.norm) (fun n S ⟨a, hm, hI, hS⟩ => ?_) (m a) S ⟨a, rfl, hI, hS⟩
  have := hb a hI S.norm.env S.norm.h
  have hN : S.n = N := hS.1
  rw [hS.eq, norm_h2 S, hN]
  refine W_mono (evP_spec b this) fun o S' q => ?_
  cases o with
  | nrm => obtain ⟨a', h1, h2, h3⟩ := q; exact ⟨m a', by omega, a', rfl, h2, h3⟩
  | ret => exact q
  | ex i => exact q
/-- Forgetting what is no longer needed. -/
theorem cutP {c : Code} {S : St} {Q : Out → St → Prop} (N : Nat) (l : List (Nat × V)) (hl : List (Nat × Nat × Nat × Option Ob)) (hS : Kn N l hl S) (h : ∀ e hp, evP P tb md prim c ⟨N, ov l e, hov hl hp⟩ Q) : evP P tb md prim c S Q := by
  rw [hS.eq]; exact h _ _

/-! ### Lists -/
theorem mapAt {α : Type} {f : α → List D} {l : List α} {i : Nat} {x : α} (h : l[i]? = some x) : (l.map f)[i]? = some (f x) := by simp [h]
theorem wrap_id {n : Int} (h1 : -9223372036854775808 ≤ n) (h2 : n ≤ 9223372036854775807) : IntKind.i64.wrap n = n := by
  simp [IntKind.wrap, IntKind.bits, IntKind.signed]
  split <;> omega
end Go.Ev
