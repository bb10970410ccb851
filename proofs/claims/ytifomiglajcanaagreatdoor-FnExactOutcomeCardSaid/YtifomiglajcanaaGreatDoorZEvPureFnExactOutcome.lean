/- The program's Outcome and the reference's Outcome return the same, for all lists of nodes and all fuels. -/
import Derived.Test.YtifomiglajcanaaGreatDoorZEvStmtFnExactOutcome
import Derived.Test.YtifomiglajcanaaGreatDoorZUvOc
set_option linter.unusedSimpArgs false
set_option linter.unusedVariables false
namespace Go.Proofs.YtifomiglajcanaaGreatDoorE
open Go.Ev Go.RowKit
set_option linter.unusedVariables false
theorem FnExactOutcome_nodes (rows : List (List D)) (h : ∀ r ∈ rows, StmtFnExactOutcome.ok45 r) : ∃ l : List laws_Node, rows = l.map laws_Node.e ∧ ∀ a ∈ l, a.Name.size ≤ 9223372036854775807 ∧ a.Other.size ≤ 9223372036854775807 := by
  induction rows with
  | nil => exact ⟨[], rfl, fun a ha => by cases ha⟩
  | cons r rows ih =>
    obtain ⟨l, e, q⟩ := ih fun y hy => h y (by simp [hy])
    obtain ⟨_, _, rfl, ⟨k, rfl, _⟩, _, _, rfl, ⟨a, rfl, _⟩, _, _, rfl, ⟨b, rfl, _⟩, _, _, rfl, ⟨c, rfl, _⟩, _, _, rfl, ⟨n, rfl, _⟩, _, _, rfl, ⟨s, rfl, hs⟩, ⟨t, rfl, ht⟩⟩ := h r (by simp)
    refine ⟨⟨k, a, b, c, n, s, t⟩ :: l, by rw [e]; rfl, fun x hx => ?_⟩
    cases hx with
    | head => exact ⟨by simpa [maxLen] using hs, by simpa [maxLen] using ht⟩
    | tail _ hx => exact q x hx
theorem pure_FnExactOutcome : StmtFnExactOutcome.Pure := by
  intro rows f hl hr hf
  obtain ⟨l, rfl, hm⟩ := FnExactOutcome_nodes rows hr
  have hl' : l.length ≤ 9223372036854775807 := by simpa [maxLen] using hl
  have main : laws_FnExactOutcome.f 3000000 l f = some true := by
    unfold laws_FnExactOutcome.f
    obtain ⟨r, hr, hc⟩ := szNodeS l hl' hm 3000000 (by omega)
    rw [hr, Option.bind_some]
    by_cases h : r < 0
    · rw [if_pos h]
    · rw [if_neg h]
      obtain ⟨hn, hsm⟩ := hc.resolve_left h
      have hlm : (l.map toN).length = l.length := List.length_map _
      rw [toNodeS l hn 3000000 (by omega), Option.bind_some, s_outcome (by omega) hsm f 3000000 (by decide), Option.bind_some, Option.bind_some, i_outcome (by omega) hsm f 3000000 (by decide), Option.bind_some, if_neg (by simp), Option.bind_some, eqNodeS (l.map toN) (by omega) 3000000 (by omega)]
      simp
  exact laws_FnExactOutcome.ev main
end Go.Proofs.YtifomiglajcanaaGreatDoorE
