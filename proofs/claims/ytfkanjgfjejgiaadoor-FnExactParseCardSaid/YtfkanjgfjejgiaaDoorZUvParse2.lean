/- The reference's parser does what exprE does. -/
import Derived.Test.YtfkanjgfjejgiaaDoorZUvParse
set_option linter.unusedSimpArgs false
set_option linter.unusedVariables false
namespace Go.Proofs.YtfkanjgfjejgiaaDoorE
open Go.Ev Go.RowKit
set_option linter.unusedVariables false
abbrev SS := spec_l4State
theorem spec_fail0 (K : Nat) (tk : List Tk) (i a e c x : Int) : spec_l4Fail.f K (⟨tk, i, 0, a, e⟩ : SS) c x = some ⟨tk, i, c, x, e⟩ := by
  unfold spec_l4Fail.f
  simp only [jn]
  rw [if_pos trivial]
theorem take_bad (K : Nat) (p : SS) (k : Int) (h : p.code ≠ 0) : spec_l4Take.f K p k = some (p, ⟨0, e0, 0, 0⟩) := by
  unfold spec_l4Take.f
  rw [if_pos (by simp [h])]
theorem take_none (K : Nat) (tk : List Tk) (i : Nat) (a e k : Int) (h : tk[i]? = none) : spec_l4Take.f K (⟨tk, i, 0, a, e⟩ : SS) k = some (⟨tk, i, 2, e, e⟩, ⟨0, e0, 0, 0⟩) := by
  have := List.getElem?_eq_none_iff.1 h
  unfold spec_l4Take.f
  rw [if_neg (by simp), if_pos (by simp; omega), spec_fail0]; rfl
theorem take_no (K : Nat) (tk : List Tk) (i : Nat) (a e k : Int) {t : Tk} (h : tk[i]? = some t) (hk : t.Kind ≠ k) : spec_l4Take.f K (⟨tk, i, 0, a, e⟩ : SS) k = some (⟨tk, i, 3, t.At, e⟩, ⟨0, e0, 0, 0⟩) := by
  have := at_lt' h
  unfold spec_l4Take.f
  rw [if_neg (by simp), if_neg (by simp; omega)]
  simp only [at_nat, h, Option.bind_some]
  rw [if_pos (by simp [hk]), spec_fail0]; rfl
theorem take_ok (K : Nat) (tk : List Tk) (hn : tk.length ≤ 4000) (i : Nat) (a e k : Int) {t : Tk} (h : tk[i]? = some t) (hk : t.Kind = k) : spec_l4Take.f K (⟨tk, i, 0, a, e⟩ : SS) k = some (⟨tk, ((i + 1 : Nat) : Int), 0, a, e⟩, t) := by
  have := at_lt' h
  unfold spec_l4Take.f
  rw [if_neg (by simp), if_neg (by simp; omega)]
  simp only [at_nat, h, Option.bind_some]
  rw [if_neg (by simp [hk]), w64_of (by omega) (by omega)]
  rfl
theorem sname_none (K : Nat) (tk : List Tk) (i : Nat) (a e : Int) (h : tk[i]? = none) : spec_l4Name.f K (⟨tk, i, 0, a, e⟩ : SS) = some (⟨tk, i, 2, e, e⟩, e0) := by
  have := List.getElem?_eq_none_iff.1 h
  unfold spec_l4Name.f
  simp only [jn]
  rw [if_pos trivial, if_neg (by omega), if_neg (by simp), take_none K tk i a e 3 h]; rfl
theorem sname_no (K : Nat) (hK : 30 < K) (tk : List Tk) (i : Nat) (a e : Int) {t : Tk} (h : tk[i]? = some t) (hk : ¬ (t.Kind = 3 ∧ keyB t.Text = false)) : ∃ x, spec_l4Name.f K (⟨tk, i, 0, a, e⟩ : SS) = some (⟨tk, i, 3, t.At, e⟩, x) := by
  have := at_lt' h
  unfold spec_l4Name.f
  simp only [jn, at_nat, h, Option.bind_some, spec_key t.Text K (by omega)]
  rw [if_pos trivial, if_pos (by omega)]
  cases hq : keyB t.Text
  · rw [if_neg (by simp), take_no K tk i a e 3 h (fun q => hk ⟨q, hq⟩)]
    exact ⟨_, rfl⟩
  · rw [if_pos rfl, spec_fail0]
    exact ⟨_, rfl⟩
theorem sname_ok (K : Nat) (hK : 30 < K) (tk : List Tk) (hn : tk.length ≤ 4000) (i : Nat) (a e : Int) {t : Tk} (h : tk[i]? = some t) (hk : t.Kind = 3 ∧ keyB t.Text = false) : spec_l4Name.f K (⟨tk, i, 0, a, e⟩ : SS) = some (⟨tk, ((i + 1 : Nat) : Int), 0, a, e⟩, t.Text) := by
  have := at_lt' h
  unfold spec_l4Name.f
  simp only [jn, at_nat, h, Option.bind_some, spec_key t.Text K (by omega), hk.2]
  rw [if_pos trivial, if_pos (by omega), if_neg (by simp), take_ok K tk hn i a e 3 h hk.1]; rfl
theorem spec_l1 (ks : List Int) (K : Nat) : ∀ (r p : List Int) (k : Nat) (n : Nd), ks = p ++ r → ks.length ≤ 1000 → r.length < k → spec_l4Expr.l1 ks K k p.length n = some (putK n p.length r)
  | [], p, k, n, h, hl, hk => by
    obtain ⟨k, rfl⟩ := succ_of hk
    subst h
    rw [spec_l4Expr.l1, if_neg (by simp)]
    rfl
  | b :: r, p, k, n, h, hl, hk => by
    obtain ⟨k, rfl⟩ := succ_of (show 0 < k by omega)
    subst h
    simp only [List.length_append, List.length_cons] at hl hk
    rw [spec_l4Expr.l1, if_pos (by simp; omega)]
    have e : w64 ((p.length : Int) + 1) = ((p ++ [b]).length : Int) := by rw [w64_of (by omega) (by omega)]; simp
    simp only [jn, at_mid, Option.bind_some, e]
    have ih := fun n => spec_l1 (p ++ b :: r) K r (p ++ [b]) k n (by simp) (by simp; omega) (by omega)
    have hl2 : (p ++ [b]).length = p.length + 1 := by simp
    rw [putK, ← hl2]
    unfold setK
    by_cases h0 : p.length = 0
    · rw [if_pos (by omega), if_pos h0]; exact ih _
    · rw [if_neg (by omega), if_neg h0]
      by_cases h1 : p.length = 1
      · rw [if_pos (by omega), if_pos h1]; exact ih _
      · rw [if_neg (by omega), if_neg h1]; exact ih _
def KsB (n : Nat) : (Int × Int) ⊕ (Nat × List Nd × Nd × List Int) → Prop
  | .inl _ => True
  | .inr r => r.2.2.2.length ≤ n
theorem body_ks (tk : List Tk) (e : Int) (rec : Nat → List Nd → PR) (y : ByteArray) : ∀ (m j i : Nat) (out : List Nd) (n : Nd) (ks : List Int), KsB (ks.length + m) (bodyE tk e rec y m j i out n ks)
  | 0, j, i, out, n, ks => Nat.le_refl _
  | m + 1, j, i, out, n, ks => by
    have step : ∀ (a b : Nat) (x : (Int × Int) ⊕ (Nat × List Nd × Nd × List Int)), a ≤ b → KsB a x → KsB b x := fun a b x h hx => by
      cases x with
      | inl f => exact hx
      | inr r => exact Nat.le_trans hx h
    rw [bodyE]
    split
    · split
      · split
        · trivial
        · split
          · exact step _ _ _ (by omega) (body_ks tk e rec y m (j + 1) (i + 1) out _ ks)
          · trivial
      · split
        · trivial
        · rename_i r _
          exact step _ _ _ (by simp; omega) (body_ks tk e rec y m (j + 1) r.1 r.2 n (ks ++ [(r.2.length : Int) - 1]))
    · show ks.length ≤ _; omega
def SRel (tk : List Tk) (a e : Int) : PR → SS → List Nd → Prop
  | .inl f, p, l => p.code = f.1 ∧ p.at_ = f.2
  | .inr r, p, l => p = ⟨tk, r.1, 0, a, e⟩ ∧ l = r.2
def SRelB (tk : List Tk) (a e : Int) : (Int × Int) ⊕ (Nat × List Nd × Nd × List Int) → List Nd × SS × Nd × List Int → Prop
  | .inl f, s => s.2.1.code = f.1 ∧ s.2.1.at_ = f.2
  | .inr r, s => s = (r.2.1, ⟨tk, r.1, 0, a, e⟩, r.2.2.1, r.2.2.2)
theorem spec_stop (r : SS → List Nd → Option (SS × List Nd)) (y : ByteArray) (K k : Nat) (j : Int) (out : List Nd) (p : SS) (n : Nd) (ks : List Int) (hc : p.code ≠ 0) (hk : 0 < k) : spec_l4Expr.l0 r y K k j out p n ks = some (out, p, n, ks) := by
  obtain ⟨k, rfl⟩ := succ_of hk
  rw [spec_l4Expr.l0]
  simp only [jn]
  by_cases q : j < (y.size : Int)
  · rw [if_pos q, if_neg (by simp [hc])]
  · rw [if_neg q, if_neg (by simp)]
theorem spec_body (tk : List Tk) (hn : tk.length ≤ 4000) (a e : Int) (K d : Nat) (hK : 5000 < K) (y : ByteArray) (hy : y.size ≤ 100) (r : SS → List Nd → Option (SS × List Nd))
    (hr : ∀ i out, out.length ≤ i → i ≤ tk.length → tk.length - i < d → ∃ p l, r ⟨tk, i, 0, a, e⟩ out = some (p, l) ∧ SRel tk a e (exprE tk e d i out) p l) :
    ∀ (m j i k : Nat) (out : List Nd) (n : Nd) (ks : List Int), j + m = y.size → ks.length ≤ j → out.length ≤ i → i ≤ tk.length → tk.length - i < d → m + 1 < k →
      ∃ s, spec_l4Expr.l0 r y K k j out ⟨tk, i, 0, a, e⟩ n ks = some s ∧ SRelB tk a e (bodyE tk e (exprE tk e d) y m j i out n ks) s := by
  have stop := fun k j out p n ks hc hk => spec_stop r y K k j out p n ks hc hk
  intro m
  induction m with
  | zero =>
    intro j i k out n ks hj hks ho hi hd hk
    obtain ⟨k, rfl⟩ := succ_of (show 0 < k by omega)
    refine ⟨(out, ⟨tk, i, 0, a, e⟩, n, ks), ?_, rfl⟩
    rw [spec_l4Expr.l0]
    simp only [jn]
    rw [if_neg (by omega), if_neg (by simp)]
  | succ m ih =>
    intro j i k out n ks hj hks ho hi hd hk
    obtain ⟨k, rfl⟩ := succ_of (show 0 < k by omega)
    have hl : j < y.size := by omega
    have ej : w64 ((j : Int) + 1) = ((j + 1 : Nat) : Int) := by rw [w64_of (by omega) (by omega)]; omega
    rw [spec_l4Expr.l0, bodyE, dif_pos hl]
    simp only [jn]
    rw [if_pos (by omega), if_pos (by simp), atS_nat y j hl, Option.bind_some, ej]
    by_cases hc : y[j].toNat = 110
    · rw [if_pos (by omega), if_pos hc]
      cases ht : tk[i]? with
      | none =>
        rw [sname_none K tk i a e ht, Option.bind_some]
        simp only
        split
        · exact ⟨_, stop k _ _ _ _ _ (by show (2 : Int) ≠ 0; omega) (by omega), rfl, rfl⟩
        · exact ⟨_, stop k _ _ _ _ _ (by show (2 : Int) ≠ 0; omega) (by omega), rfl, rfl⟩
      | some t =>
        have hlt := at_lt' ht
        simp only
        by_cases hq : t.Kind = 3 ∧ keyB t.Text = false
        · rw [if_pos hq, sname_ok K (by omega) tk hn i a e ht hq, Option.bind_some]
          have := ih (j + 1) (i + 1) k out (setName n t.Text) ks (by omega) (by omega) (by omega) (by omega) (by omega) (by omega)
          simp only
          unfold setName at this ⊢
          split
          · rename_i q; (try rw [if_pos q] at this); exact this
          · rename_i q; (try rw [if_neg q] at this); exact this
        · rw [if_neg hq]
          obtain ⟨x, hx⟩ := sname_no K (by omega) tk i a e ht hq
          rw [hx, Option.bind_some]
          simp only
          split
          · exact ⟨_, stop k _ _ _ _ _ (by show (3 : Int) ≠ 0; omega) (by omega), rfl, rfl⟩
          · exact ⟨_, stop k _ _ _ _ _ (by show (3 : Int) ≠ 0; omega) (by omega), rfl, rfl⟩
    · rw [if_neg (by omega), if_neg hc]
      obtain ⟨p, l, h1, h2⟩ := hr i out ho hi hd
      have hok := expr_ok tk e d i out ho hi
      rw [h1, Option.bind_some]
      simp only
      rw [gd_pos (by omega)]
      cases hx : exprE tk e d i out with
      | inl f =>
        rw [hx] at h2 hok
        refine ⟨_, stop k _ _ _ _ _ ?_ (by omega), h2.1, h2.2⟩
        rw [h2.1]; exact hok
      | inr q =>
        rw [hx] at h2 hok
        obtain ⟨rfl, rfl⟩ := h2
        obtain ⟨o1, o2, o3, o4⟩ := hok
        simp only
        rw [w64_of (x := (q.2.length : Int) - 1) (by omega) (by omega)]
        exact ih (j + 1) q.1 k q.2 n (ks ++ [(q.2.length : Int) - 1]) (by omega) (by simp; omega) o3 o2 (by omega) (by omega)
theorem spec_expr (tk : List Tk) (hn : tk.length ≤ 4000) (hkd : ∀ t ∈ tk, t.Kind = 1 ∨ t.Kind = 2 ∨ t.Kind = 3 ∨ t.Kind = 4) (a e : Int) (K : Nat) (hK : 5000 < K) : ∀ (d i : Nat) (out : List Nd), out.length ≤ i → i ≤ tk.length → tk.length - i < d →
    ∃ p l, spec_l4Expr.r K d ⟨tk, i, 0, a, e⟩ out = some (p, l) ∧ SRel tk a e (exprE tk e d i out) p l := by
  intro d
  induction d with
  | zero => intro i out _ _ h; omega
  | succ d ih =>
    intro i out ho hi hd
    rw [spec_l4Expr.r, exprE]
    unfold spec_l4Expr.b
    rw [if_neg (by simp)]
    cases ht : tk[i]? with
    | none =>
      have := List.getElem?_eq_none_iff.1 ht
      rw [if_pos (by simp; omega), spec_fail0]
      exact ⟨_, _, rfl, rfl, rfl⟩
    | some t =>
      have hlt := at_lt' ht
      have ei : w64 ((i : Int) + 1) = ((i + 1 : Nat) : Int) := by rw [w64_of (by omega) (by omega)]; omega
      rw [if_neg (by simp; omega)]
      simp only [at_nat, ht, Option.bind_some, ei, jn]
      by_cases k4 : t.Kind = 4
      · rw [if_pos k4, if_pos k4, gd_pos (by omega)]
        exact ⟨_, _, rfl, rfl, rfl⟩
      rw [if_neg k4, if_neg k4]
      by_cases k3 : t.Kind = 3
      · simp only [if_pos k3]
        by_cases hnil : t.Text.data.toList = nilL
        · rw [if_pos hnil, if_pos (by rw [Lib.toList_data, Lib.toList_data, hnil]; rfl), gd_pos (by omega)]
          exact ⟨_, _, rfl, rfl, rfl⟩
        · rw [if_neg hnil, if_neg (by rw [Lib.toList_data, Lib.toList_data, beq_iff_eq]; exact hnil)]
          cases hkey : keyB t.Text
          · rw [if_neg (by simp), sname_ok K (by omega) tk hn i a e ht ⟨k3, hkey⟩, Option.bind_some]
            simp only
            rw [gd_pos (by omega)]
            exact ⟨_, _, rfl, rfl, rfl⟩
          · rw [if_pos rfl]
            obtain ⟨x, hx⟩ := sname_no K (by omega) tk i a e ht (by rw [hkey]; simp)
            rw [hx, Option.bind_some]
            simp only
            rw [gd_pos (by omega)]
            exact ⟨_, _, rfl, rfl, rfl⟩
      simp only [if_neg k3]
      rw [if_neg (by simp)]
      by_cases k2 : t.Kind = 2
      · rw [if_pos k2, if_neg (by omega), spec_fail0]
        exact ⟨_, _, rfl, rfl, rfl⟩
      rw [if_neg k2]
      have k1 : t.Kind = 1 := by have := hkd t (List.mem_of_getElem? ht); omega
      simp only [if_pos k1]
      cases hh : tk[i + 1]? with
      | none =>
        have := List.getElem?_eq_none_iff.1 hh
        rw [if_neg (by omega), take_none K tk (i + 1) a e 3 hh]
        simp only [Option.bind_some, spec_form]
        rw [if_neg (by omega), if_neg (by simp), spec_stop _ _ _ _ _ _ _ _ _ (by show (2 : Int) ≠ 0; omega) (by omega)]
        simp only [Option.bind_some]
        rw [take_bad _ _ _ (by show (2 : Int) ≠ 0; omega), Option.bind_some, if_pos (by simp)]
        exact ⟨_, _, rfl, rfl, rfl⟩
      | some h =>
        have hlt2 := at_lt' hh
        rw [if_pos (by omega), Option.bind_some]
        by_cases h3 : h.Kind = 3
        · rw [take_ok K tk hn (i + 1) a e 3 hh h3]
          simp only [Option.bind_some, spec_form, if_true]
          by_cases hf : (formT h.Text).1 = 0
          · rw [if_pos (by simp [hf]), spec_fail0, if_neg (fun q => q.2 hf)]
            exact ⟨_, _, rfl, rfl, rfl⟩
          · rw [if_neg (by simp [hf]), if_pos ⟨h3, hf⟩]
            have hsz := form_size h.Text
            obtain ⟨s, hs, hrel⟩ := spec_body tk hn a e K d hK (formT h.Text).2.2 (by omega) (spec_l4Expr.r K d) ih (formT h.Text).2.2.size 0 (i + 2) K out ⟨(formT h.Text).1, 0, 0, 0, (formT h.Text).2.1, e0, e0⟩ [] (by omega) (by simp) (by omega) (by omega) (by omega) (by omega)
            have hbok := body_ok tk e (exprE tk e d) (formT h.Text).2.2 (fun i out a b => expr_ok tk e d i out a b) (formT h.Text).2.2.size 0 (i + 2) out ⟨(formT h.Text).1, 0, 0, 0, (formT h.Text).2.1, e0, e0⟩ [] (by omega) (by omega)
            rw [show spec_l4Expr.l0 (spec_l4Expr.r K d) (formT h.Text).2.2 K K 0 out ⟨tk, ((i + 1 + 1 : Nat) : Int), 0, a, e⟩ ⟨(formT h.Text).1, 0, 0, 0, (formT h.Text).2.1, ⟨#[]⟩, ⟨#[]⟩⟩ [] = some s from hs, Option.bind_some]
            cases hb : bodyE tk e (exprE tk e d) (formT h.Text).2.2 (formT h.Text).2.2.size 0 (i + 2) out ⟨(formT h.Text).1, 0, 0, 0, (formT h.Text).2.1, e0, e0⟩ [] with
            | inl f =>
              rw [hb] at hrel hbok
              have hc : s.2.1.code ≠ 0 := by rw [hrel.1]; exact hbok
              rw [take_bad _ _ _ hc, Option.bind_some, if_pos (by simp [hc])]
              exact ⟨_, _, rfl, hrel.1, hrel.2⟩
            | inr q =>
              rw [hb] at hrel hbok
              obtain ⟨o1, o2, o3⟩ := hbok
              cases hrel
              simp only
              cases hc : tk[q.1]? with
              | none =>
                rw [take_none K tk q.1 a e 2 hc, Option.bind_some, if_pos (by simp)]
                exact ⟨_, _, rfl, rfl, rfl⟩
              | some c =>
                simp only
                by_cases c2 : c.Kind = 2
                · rw [take_ok K tk hn q.1 a e 2 hc c2, if_pos c2, Option.bind_some, if_neg (by simp)]
                  have hks := body_ks tk e (exprE tk e d) (formT h.Text).2.2 (formT h.Text).2.2.size 0 (i + 2) out ⟨(formT h.Text).1, 0, 0, 0, (formT h.Text).2.1, e0, e0⟩ []
                  rw [hb] at hks
                  have hks : q.2.2.2.length ≤ 0 + (formT h.Text).2.2.size := hks
                  have := spec_l1 q.2.2.2 K q.2.2.2 [] K q.2.2.1 (by simp) (by omega) (by omega)
                  rw [show spec_l4Expr.l1 q.2.2.2 K K 0 q.2.2.1 = _ from this, Option.bind_some, gd_pos (by omega)]
                  exact ⟨_, _, rfl, rfl, rfl⟩
                · rw [take_no K tk q.1 a e 2 hc c2, if_neg c2, Option.bind_some, if_pos (by simp)]
                  exact ⟨_, _, rfl, rfl, rfl⟩
        · rw [take_no K tk (i + 1) a e 3 hh h3]
          simp only
          rw [if_neg (c := h.Kind = 3 ∧ (formT h.Text).1 ≠ 0) (fun q => h3 q.1)]
          simp only [Option.bind_some, spec_form]
          rw [if_neg (by omega), if_neg (by simp), spec_stop _ _ _ _ _ _ _ _ _ (by show (3 : Int) ≠ 0; omega) (by omega)]
          simp only [Option.bind_some]
          rw [take_bad _ _ _ (by show (3 : Int) ≠ 0; omega), Option.bind_some, if_pos (by simp)]
          exact ⟨_, _, rfl, rfl, rfl⟩
end Go.Proofs.YtfkanjgfjejgiaaDoorE
