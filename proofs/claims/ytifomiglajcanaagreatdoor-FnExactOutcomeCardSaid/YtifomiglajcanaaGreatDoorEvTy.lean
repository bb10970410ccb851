/- The evaluator: EvTy. -/
import Derived.Test.YtifomiglajcanaaGreatDoorEvK
set_option linter.unusedSimpArgs false
set_option linter.unusedVariables false
namespace Go.Ev
variable {P : Program} {tb : Tb}
def cellB : Value → V → Bool
  | .int k n, .d (.p (.int k' m)) => k == k' && n == m
  | .bool a, .d (.p (.bool b)) => a == b
  | .string a, .d (.p (.string b)) => a.data.toList == b.data.toList
  | .pointer none, .d (.p (.pointer none)) => true
  | .slice none 0 0, .nl .. => true
  | _, _ => false
theorem cellB_ok {v : Value} {x : V} (h : cellB v x = true) : v = z0 x ∧ zOk x = true := by
  unfold cellB at h
  split at h
  · simp only [Bool.and_eq_true, beq_iff_eq] at h; obtain ⟨rfl, rfl⟩ := h; exact ⟨rfl, rfl⟩
  · simp only [beq_iff_eq] at h; subst h; exact ⟨rfl, rfl⟩
  · simp only [beq_iff_eq] at h
    rename_i a b
    obtain ⟨⟨a⟩⟩ := a; obtain ⟨⟨b⟩⟩ := b
    simp at h; subst h; exact ⟨rfl, rfl⟩
  · exact ⟨rfl, rfl⟩
  · exact ⟨rfl, rfl⟩
  · cases h
def cellsB : List Value → List V → Bool
  | [], [] => true
  | v :: vs, x :: xs => cellB v x && cellsB vs xs
  | _, _ => false
theorem cellsB_ok : ∀ {vs : List Value} {xs : List V}, cellsB vs xs = true → vs = xs.map z0 ∧ xs.all zOk = true
  | [], [], _ => ⟨rfl, rfl⟩
  | v :: vs, x :: xs, h => by
    simp only [cellsB, Bool.and_eq_true] at h
    obtain ⟨a, b⟩ := cellB_ok h.1
    obtain ⟨c, d⟩ := cellsB_ok h.2
    exact ⟨by rw [List.map_cons, a, c], by rw [List.all_cons, b, d]; rfl⟩
  | [], _ :: _, h => by cases h
  | _ :: _, [], h => by cases h
def kindB (P : Program) (tb : Tb) (t : Nat) : TK → Bool
  | .st fs => match P.underlying t with
    | some (.struct fa) => fa.toList.map (fun f => (f.offset, f.type)) == fs && fs.all fun p => match P.info? p.2 with | some qi => qi.size == szOf tb p.2 | none => false
    | _ => false
  | .sl e => match P.underlying t with | some (.slice e') => e' == e | _ => false
  | .pt e => match P.underlying t with | some (.pointer e') => e' == e | _ => false
  | .sc => match P.underlying t with | some .bool => true | some .string => true | some (.int _) => true | _ => false
  | .ot => false
def tiB (P : Program) (tb : Tb) (t : Nat) (i : TI) : Bool := match P.info? t with
  | some pi => pi.size == i.sz && pi.bytes == i.by_ && (match pi.zero with | some z => cellsB z.cells.toList i.z | none => false) && i.z.length == i.sz && kindB P tb t i.k
  | none => false
theorem tiB_ok {t : Nat} {i : TI} (h : tiB P tb t i = true) : TIok P tb t i := by
  unfold tiB at h
  split at h
  case h_2 => cases h
  rename_i pi hpi
  simp only [Bool.and_eq_true, beq_iff_eq] at h
  obtain ⟨⟨⟨⟨h1, h2⟩, h3⟩, h4⟩, h5⟩ := h
  split at h3
  case h_2 => cases h3
  rename_i z hz
  obtain ⟨q1, q2⟩ := cellsB_ok h3
  refine ⟨pi, z, hpi, h1, h2, hz, q1, h4, q2, ?_⟩
  obtain ⟨sz, by_, k, zz⟩ := i
  simp only at h5 ⊢
  cases k with
  | st fs =>
    simp only [kindB] at h5
    split at h5
    · rename_i fa hu
      simp only [Bool.and_eq_true, beq_iff_eq, List.all_eq_true] at h5
      refine ⟨fa, hu, h5.1, fun p hp => ?_⟩
      have := h5.2 p hp
      split at this
      · rename_i qi hq; exact ⟨qi, hq, by simpa using this⟩
      · cases this
    · cases h5
  | sl e =>
    simp only [kindB] at h5
    split at h5
    · rename_i e' hu; simp at h5; subst h5; exact hu
    · cases h5
  | pt e =>
    simp only [kindB] at h5
    split at h5
    · rename_i e' hu; simp at h5; subst h5; exact hu
    · cases h5
  | sc =>
    simp only [kindB] at h5
    split at h5
    · rename_i hu; exact .inl hu
    · rename_i hu; exact .inr (.inl hu)
    · rename_i k hu; exact .inr (.inr ⟨k, hu⟩)
    · cases h5
  | ot => cases h5
end Go.Ev
