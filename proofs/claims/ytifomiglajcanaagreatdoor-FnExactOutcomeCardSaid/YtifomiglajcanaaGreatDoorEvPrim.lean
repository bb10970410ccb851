/- The evaluator: EvPrim. -/
import Derived.Test.YtifomiglajcanaaGreatDoorEvG
set_option linter.unusedSimpArgs false
set_option linter.unusedVariables false
namespace Go.Ev
set_option linter.unusedVariables false
variable {P : Program}

/-! ### Functions of Go's library, by their contracts -/
theorem TR.dp {B : Nat → Nat → Prop} {w : World} {v u : Value} {A : List Atm} (h : TR B w (.d (.p v)) u A) : u = v ∧ A = [] := by
  cases h with
  | c h => cases h with
    | d hx => cases hx; exact ⟨rfl, rfl⟩
theorem TRs.one {B : Nat → Nat → Prop} {w : World} {a : Value} {us : List Value} {A : List Atm} (h : TRs B w [.d (.p a)] us A) : us = [a] ∧ A = [] := by
  cases h with
  | cons h1 h2 => cases h2; obtain ⟨rfl, rfl⟩ := h1.dp; exact ⟨rfl, rfl⟩
theorem TRs.two {B : Nat → Nat → Prop} {w : World} {a b : Value} {us : List Value} {A : List Atm} (h : TRs B w [.d (.p a), .d (.p b)] us A) : us = [a, b] ∧ A = [] := by
  cases h with
  | cons h1 h2 => obtain ⟨rfl, rfl⟩ := h2.one; obtain ⟨rfl, rfl⟩ := h1.dp; exact ⟨rfl, rfl⟩
theorem callOk_one [Base] {g : Nat} (ent : Enters P g) {F : List T → Option Res} (h : ∀ ts rs ps, F ts = some (rs, ps) → Ok2 P g ts rs ps) (hg : g < 1000000 := by decide) : CallOk P fun g' ts => if g' = g then F ts else none := by
  intro g' ts rs ps e
  change (if g' = g then F ts else none) = some (rs, ps) at e
  by_cases hg : g' = g
  · subst hg; rw [if_pos rfl] at e; exact ⟨fun _ => ⟨ent, h ts rs ps e⟩, fun q => absurd q (Nat.not_le.2 hg)⟩
  · rw [if_neg hg] at e; cases e
/-- A new list of texts. -/
theorem ok_newS {w : World} {X : Nat → Nat → Prop} {g : Nat} {us : Array Value} {pt : List Value} (hpt : pt = []) (l : List ByteArray) (n : Nat) (hn : n = l.length) (et : TypeId) (hl : n ≤ maxLen) (hX : ∀ g o, X g o → g < w.heap.size)
    (c : Calls P g us w fun e w' => e = .returned (.slice (some ⟨w.heap.size, 0, none⟩) n n) ∧ w' = w.alloc (.cells (l.map Value.string).toArray et)) :
    Calls P g us w fun e w' => ∃ rvs A1 A2, e = .returned (tupVal rvs) ∧ TRs (Or2 X (cellsL (A1 ++ A2))) w' [.own true 1 (l.map eS)] rvs A1 ∧ TRs (Or2 X (cellsL (A1 ++ A2))) w' [] pt A2 ∧ Disj (A1 ++ A2) ∧
      (∀ g o, cellsL (A1 ++ A2) g o → ¬ X g o) ∧ Fr (cellsL []) w w' ∧ ∀ g o, g < w.heap.size → cellsL (A1 ++ A2) g o → cellsL [] g o := by
  refine c.mono ?_
  rintro e w' ⟨rfl, rfl⟩
  subst hpt
  have hat : ∀ g o, cellsL ([(Ob.row true true 1 (l.map eS), Value.slice (some ⟨w.heap.size, 0, none⟩) n n)] ++ []) g o → g = w.heap.size := by
    rintro g o ⟨p, hp, x⟩
    simp at hp; subst hp
    exact x.symm
  have hg : (w.alloc (.cells (l.map Value.string).toArray et)).heap[w.heap.size]? = some (.cells (l.map Value.string).toArray et (0, 0)) := by simp [World.alloc, -World.alloc_eq]
  refine ⟨[.slice (some ⟨w.heap.size, 0, none⟩) n n], [(.row true true 1 (l.map eS), .slice (some ⟨w.heap.size, 0, none⟩) n n)], [], rfl, .cons (.c (.own ?_ rfl)) .nil, .nil, List.pairwise_singleton _ _, fun g o h hx => ?_, Fr.alloc _ _ _, fun g o hlt h => ?_⟩
  · refine ⟨l.map Value.string, ⟨by simp, .inr ⟨w.heap.size, n, (l.map Value.string).toArray, et, by simp [hn], hg, by simp [hn], hl, by simp [hn], by simp [List.take_of_length_le]⟩⟩, ?_, ?_, ?_⟩
    · intro x hx; obtain ⟨s, _, rfl⟩ := List.mem_map.1 hx; rfl
    · intro _ x hx; obtain ⟨s, _, rfl⟩ := List.mem_map.1 hx; rfl
    · intro i x j y hx hy
      rw [List.getElem?_map] at hx
      cases hs : l[i]? with
      | none => rw [hs] at hx; cases hx
      | some s =>
        rw [hs] at hx; simp at hx; subst hx
        cases j with
        | zero => simp [eS] at hy; subst hy; exact ⟨.string s, by simp [hs], .p _ rfl⟩
        | succ j => simp [eS] at hy
  · have := hX g o hx; rw [hat g o h] at this; omega
  · rw [hat g o h] at hlt; omega
end Go.Ev
