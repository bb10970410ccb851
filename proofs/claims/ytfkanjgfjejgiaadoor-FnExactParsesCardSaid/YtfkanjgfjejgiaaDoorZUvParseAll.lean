/- Parse: the program's and the reference's answers are the same. -/
import Derived.Test.YtfkanjgfjejgiaaDoorZUvParse3
import Derived.Test.YtfkanjgfjejgiaaDoorZUvMarkNodeP
set_option linter.unusedSimpArgs false
set_option linter.unusedVariables false
namespace Go.Proofs.YtfkanjgfjejgiaaDoorE
open Go.Ev Go.RowKit
set_option linter.unusedVariables false
theorem tokE_kind {s : ByteArray} {i c : Nat} {t : Tk} (e : tokE s i c = some t) : t.Kind = 1 ∨ t.Kind = 2 ∨ t.Kind = 3 ∨ t.Kind = 4 := by
  unfold tokE at e
  split at e
  · cases e; exact .inl rfl
  split at e
  · cases e; exact .inr (.inl rfl)
  split at e
  · split at e
    · cases e; exact .inr (.inr (.inl rfl))
    · cases e
  split at e
  · split at e
    · cases e; exact .inr (.inr (.inr rfl))
    · cases e
  · cases e
theorem lexE_kind (s : ByteArray) : ∀ (d i : Nat) (out r : List Tk), (∀ t ∈ out, t.Kind = 1 ∨ t.Kind = 2 ∨ t.Kind = 3 ∨ t.Kind = 4) → lexE s d i out = .inr r → ∀ t ∈ r, t.Kind = 1 ∨ t.Kind = 2 ∨ t.Kind = 3 ∨ t.Kind = 4
  | 0, i, out, r, h, e => by simp [lexE] at e; subst e; exact h
  | d + 1, i, out, r, h, e => by
    rw [lexE] at e
    split at e
    · split at e
      · exact lexE_kind s d (i + 1) out r h e
      · split at e
        · exact lexE_kind s d _ out r h e
        · split at e
          · rename_i t ht
            refine lexE_kind s d _ _ r (fun x hx => ?_) e
            rcases List.mem_append.1 hx with q | q
            · exact h x q
            · rw [List.mem_singleton] at q; subst q; exact tokE_kind ht
          · cases e
    · cases e; exact h
theorem lexR_kind (s : ByteArray) (h : (lexR s).2 < 0) : ∀ t ∈ (lexR s).1, t.Kind = 1 ∨ t.Kind = 2 ∨ t.Kind = 3 ∨ t.Kind = 4 := by
  unfold lexR at h ⊢
  split
  · simp
  · rename_i hs
    rw [if_neg hs] at h
    cases e : lexE s s.size 0 [] with
    | inl r =>
      rw [e] at h
      have : ∀ (d i : Nat) (out : List Tk) (r : List Tk × Int), lexE s d i out = .inl r → r.1 = [] := by
        intro d
        induction d with
        | zero => intro i out r e; cases e
        | succ d ih =>
          intro i out r e
          rw [lexE] at e
          split at e
          · split at e
            · exact ih _ _ _ e
            · split at e
              · exact ih _ _ _ e
              · split at e
                · exact ih _ _ _ e
                · cases e; rfl
          · cases e
      simp [this _ _ _ _ e]
    | inr out => exact lexE_kind s s.size 0 [] out (by simp) e
/-- What both answer. -/
def parseR (K : Nat) (s : ByteArray) : List Nd × Int × Int :=
  if (lexR s).2 ≥ 0 then ([], 1, (lexR s).2) else
  match exprE (lexR s).1 (s.size : Int) K 0 [] with
  | .inl f => ([], f.1, f.2)
  | .inr r => match (lexR s).1[r.1]? with
    | some t => ([], 4, t.At)
    | none => if r.2.length > 150 then ([], 5, 0) else (r.2, 0, 0)
theorem parseR_len (K : Nat) (s : ByteArray) : (parseR K s).1.length ≤ 150 := by
  unfold parseR
  split
  · simp
  · split
    · simp
    · split
      · simp
      · split
        · simp
        · simp only; omega
theorem spec_parse (s : ByteArray) (K : Nat) (hK : 5000 < K) : spec_Parse.f K s = some (parseR K s) := by
  unfold spec_Parse.f parseR
  rw [spec_lex s K hK, Option.bind_some]
  simp only
  by_cases hb : (lexR s).2 ≥ 0
  · rw [if_pos hb, if_pos hb]
  · rw [if_neg hb, if_neg hb]
    have hl := lexR_len s
    obtain ⟨p, l, h1, h2⟩ := spec_expr (lexR s).1 hl (lexR_kind s (by omega)) 0 (s.size : Int) K hK K 0 [] (by simp) (by omega) (by omega)
    have hok := expr_ok (lexR s).1 (s.size : Int) K 0 [] (by simp) (by omega)
    unfold spec_l4Expr.f
    rw [show spec_l4Expr.r K K ⟨(lexR s).1, 0, 0, 0, (s.size : Int)⟩ [] = some (p, l) from h1, Option.bind_some]
    simp only [jn]
    cases he : exprE (lexR s).1 (s.size : Int) K 0 [] with
    | inl f =>
      rw [he] at h2 hok
      have hc : p.code ≠ 0 := by rw [h2.1]; exact hok
      simp only [if_neg hc]
      rw [if_neg (by simp), if_neg (by simp), if_pos (by simp [hc]), h2.1, h2.2]
    | inr r =>
      rw [he] at h2 hok
      obtain ⟨rfl, rfl⟩ := h2
      simp only [if_true]
      cases ht : (lexR s).1[r.1]? with
      | none =>
        have := List.getElem?_eq_none_iff.1 ht
        rw [if_neg (by simp; omega)]
        simp only
        by_cases hg : r.2.length > 150
        · rw [if_pos (by simp; omega), if_pos hg, spec_fail0, Option.bind_some, if_pos (by simp)]
        · rw [if_neg (by simp; omega), if_neg hg, if_neg (by simp)]
      | some t =>
        have := at_lt' ht
        rw [if_pos (by simp; omega)]
        simp only [at_nat, ht, Option.bind_some, spec_fail0]
        rw [if_neg (by omega), if_neg (by simp), if_pos (by simp)]
theorem impl_parse (s : ByteArray) (K : Nat) (hK : 5000 < K) (hK2 : K ≤ 100000) : impl_Parse.f K s = some (parseR K s) := by
  unfold impl_Parse.f parseR
  rw [impl_lex s K hK, Option.bind_some]
  simp only
  by_cases hb : (lexR s).2 ≥ 0
  · rw [if_pos hb, if_pos hb]
  · rw [if_neg hb, if_neg hb]
    have hl := lexR_len s
    obtain ⟨x, p, h1, h2⟩ := impl_expr (lexR s).1 hl (s.size : Int) 0 K hK K 0 [] hK2 (by simp) (by omega) (by omega)
    have hok := expr_ok (lexR s).1 (s.size : Int) K 0 [] (by simp) (by omega)
    unfold impl_parser_expr.f
    rw [show impl_parser_expr.r K K ⟨(lexR s).1, 0, (s.size : Int), 0, 0, []⟩ = some (x, p) from h1, Option.bind_some]
    simp only
    cases he : exprE (lexR s).1 (s.size : Int) K 0 [] with
    | inl f =>
      rw [he] at h2 hok
      have hc : p.code ≠ 0 := by rw [h2.1]; exact hok
      rw [if_pos (by simp [hc]), h2.1, h2.2.1]
    | inr r =>
      rw [he] at h2 hok
      obtain ⟨rfl, rfl⟩ := h2
      rw [if_neg (by simp)]
      simp only
      cases ht : (lexR s).1[r.1]? with
      | none =>
        have := List.getElem?_eq_none_iff.1 ht
        rw [if_neg (by omega)]
        simp only
        by_cases hg : r.2.length > 150
        · rw [if_pos (by omega), if_pos hg]
        · rw [if_neg (by omega), if_neg hg]
      | some t =>
        have := at_lt' ht
        rw [if_pos (by omega)]
        simp only [at_nat, ht, Option.bind_some]
theorem law_parses (s : ByteArray) : ∃ K, laws_FnExactParses.f K s = some true := by
  refine ⟨6000, ?_⟩
  unfold laws_FnExactParses.f spec_Parses.f impl_Parses.f
  by_cases h : (s.size : Int) > 1048576
  · rw [if_pos h]
  · rw [if_neg h, spec_parse s 6000 (by omega), impl_parse s 6000 (by omega) (by omega)]
    simp
theorem law_parse (s : ByteArray) : ∃ K, laws_FnExactParse.f K s = some true := by
  refine ⟨6000, ?_⟩
  unfold laws_FnExactParse.f
  by_cases h : (s.size : Int) > 1048576
  · rw [if_pos h]
  · rw [if_neg h, spec_parse s 6000 (by omega), impl_parse s 6000 (by omega) (by omega)]
    have hl := parseR_len 6000 s
    generalize parseR 6000 s = r at hl ⊢
    obtain ⟨l, c, a⟩ := r
    simp only at hl
    have ml := mkNodeL_len l.length 1
    simp only [Option.bind_some, eqNodeS l (by omega) 6000 (by omega), Bool.not_true, Bool.false_eq_true, if_false, markNodeS l (by omega) 6000 (by omega), heldNodeS l.length (by omega) 6000 (by omega), jn, decide_true]
    rw [gd_pos (by rw [ml]), if_neg (by omega)]
    rw [if_neg (by omega)]
end Go.Proofs.YtfkanjgfjejgiaaDoorE
