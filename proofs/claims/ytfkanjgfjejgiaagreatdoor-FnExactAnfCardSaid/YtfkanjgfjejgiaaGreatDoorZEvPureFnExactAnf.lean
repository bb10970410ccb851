/- The program's Anf and the reference's Anf return the same, for all lists of nodes, share nothing and keep nothing. -/
import Derived.Test.YtfkanjgfjejgiaaGreatDoorZEvStmtFnExactAnf
import Derived.Test.YtfkanjgfjejgiaaGreatDoorZUvCan3
import Derived.Test.YtfkanjgfjejgiaaGreatDoorZUvMarkNode
set_option linter.unusedSimpArgs false
set_option linter.unusedVariables false
namespace Go.Proofs.YtfkanjgfjejgiaaGreatDoorE
open Go.Ev Go.RowKit
set_option linter.unusedVariables false
theorem FnExactAnf_nodes (rows : List (List D)) (h : ∀ r ∈ rows, StmtFnExactAnf.ok55 r) : ∃ l : List laws_Node, rows = l.map laws_Node.e ∧ ∀ a ∈ l, a.Name.size ≤ 9223372036854775807 ∧ a.Other.size ≤ 9223372036854775807 := by
  induction rows with
  | nil => exact ⟨[], rfl, fun a ha => by cases ha⟩
  | cons r rows ih =>
    obtain ⟨l, e, q⟩ := ih fun y hy => h y (by simp [hy])
    obtain ⟨_, _, rfl, ⟨k, rfl, _⟩, _, _, rfl, ⟨a, rfl, _⟩, _, _, rfl, ⟨b, rfl, _⟩, _, _, rfl, ⟨c, rfl, _⟩, _, _, rfl, ⟨n, rfl, _⟩, _, _, rfl, ⟨s, rfl, hs⟩, ⟨t, rfl, ht⟩⟩ := h r (by simp)
    refine ⟨⟨k, a, b, c, n, s, t⟩ :: l, by rw [e]; rfl, fun x hx => ?_⟩
    cases hx with
    | head => exact ⟨by simpa [maxLen] using hs, by simpa [maxLen] using ht⟩
    | tail _ hx => exact q x hx
theorem pure_FnExactAnf : StmtFnExactAnf.Pure := by
  intro rows hl hr
  obtain ⟨l, rfl, hm⟩ := FnExactAnf_nodes rows hr
  have hl' : l.length ≤ 9223372036854775807 := by simpa [maxLen] using hl
  have main : ∃ K, laws_FnExactAnf.f K l = some true := by
    by_cases hbig : l.length ≤ 1048576 ∧ ∀ n ∈ l.map toN, small n
    · obtain ⟨hn, hsm⟩ := hbig
      have hlm : (l.map toN).length = l.length := List.length_map _
      obtain ⟨p, c, hp, N, hb⟩ := anf_both can_ok (l.map toN) (by omega) hsm
      refine ⟨N + 3000000, ?_⟩
      generalize hK : N + 3000000 = K
      obtain ⟨b1, b2⟩ := hb K (by omega)
      unfold laws_FnExactAnf.f
      obtain ⟨r, hr, hc⟩ := szNodeS l hl' hm K (by omega)
      rw [hr, Option.bind_some]
      by_cases h : r < 0
      · rw [if_pos h]
      · rw [if_neg h]
        have ml := mkNodeL_len (l.map toN).length 1
        have mp := mkNodeL_len p.length 1
        simp only [toNodeS l hn K (by omega), b1, b2, Option.bind_some, eqNodeS p (by omega) K (by omega), eqNodeS (l.map toN) (by omega) K (by omega), Bool.not_true, Bool.false_eq_true, if_false, markNodeS (l.map toN) (by omega) K (by omega), markNodeS p (by omega) K (by omega), heldNodeS p.length (by omega) K (by omega), jn]
        have hcc : (c != c) = false := by cases c <;> rfl
        try simp only [hcc, Bool.false_eq_true, if_false]
        rw [gd_pos (by rw [ml])]
        try rw [if_neg (by omega)]
        try simp only [hcc, Bool.false_eq_true, if_false]
        rw [gd_pos (by rw [mp])]
        try rw [if_neg (by omega)]
        try simp only [hcc, decide_true, Bool.not_true, Bool.false_eq_true, if_false, if_true]
        try rw [if_neg (by omega)]
    · refine ⟨3000000, ?_⟩
      unfold laws_FnExactAnf.f
      obtain ⟨r, hr, hc⟩ := szNodeS l hl' hm 3000000 (by omega)
      rw [hr, Option.bind_some]
      by_cases h : r < 0
      · rw [if_pos h]
      · exact absurd (hc.resolve_left h) hbig
  obtain ⟨K, h⟩ := main
  exact laws_FnExactAnf.ev h
end Go.Proofs.YtfkanjgfjejgiaaGreatDoorE
