/- The program's parser does what exprE does. -/
import Derived.Test.YtfkanjgfjejgiaaDoorZUvParse2
set_option linter.unusedSimpArgs false
set_option linter.unusedVariables false
namespace Go.Proofs.YtfkanjgfjejgiaaDoorE
open Go.Ev Go.RowKit
set_option linter.unusedVariables false
abbrev IP := impl_parser
theorem next_bad (K : Nat) (p : IP) (h : p.code ≠ 0) : impl_parser_next.f K p = some (⟨0, e0, 0, 0⟩, false, p) := by
  unfold impl_parser_next.f
  simp only [jn]
  rw [if_neg h, if_neg (by simp), if_pos (by simp [h])]
theorem next_none (K : Nat) (tk : List Tk) (i : Nat) (e sp : Int) (out : List Nd) (h : tk[i]? = none) : impl_parser_next.f K (⟨tk, i, e, 0, sp, out⟩ : IP) = some (⟨0, e0, 0, 0⟩, false, ⟨tk, i, e, 2, e, out⟩) := by
  have := List.getElem?_eq_none_iff.1 h
  unfold impl_parser_next.f impl_parser_fault.f
  simp only [jn]
  rw [if_pos trivial, if_pos (by simp; omega), if_pos trivial, Option.bind_some, if_pos (by simp)]
theorem next_ok (K : Nat) (tk : List Tk) (hn : tk.length ≤ 4000) (i : Nat) (e sp : Int) (out : List Nd) {t : Tk} (h : tk[i]? = some t) : impl_parser_next.f K (⟨tk, i, e, 0, sp, out⟩ : IP) = some (t, true, ⟨tk, ((i + 1 : Nat) : Int), e, 0, sp, out⟩) := by
  have := at_lt' h
  unfold impl_parser_next.f
  simp only [jn]
  have e1 : w64 ((i : Int) + 1) = ((i + 1 : Nat) : Int) := by rw [w64_of (by omega) (by omega)]; omega
  have e2 : w64 (((i + 1 : Nat) : Int) - 1) = (i : Int) := by rw [w64_of (by omega) (by omega)]; omega
  rw [if_pos trivial, if_neg (by simp; omega), if_neg (by simp), e1, e2, at_nat, h, Option.bind_some]
theorem fault_0 (K : Nat) (tk : List Tk) (i e sp c a : Int) (out : List Nd) : impl_parser_fault.f K (⟨tk, i, e, 0, sp, out⟩ : IP) c a = some ⟨tk, i, e, c, a, out⟩ := by
  unfold impl_parser_fault.f
  rw [if_pos rfl]
theorem iname_none (K : Nat) (tk : List Tk) (i : Nat) (e sp : Int) (out : List Nd) (h : tk[i]? = none) : ∃ x, impl_parser_name.f K (⟨tk, i, e, 0, sp, out⟩ : IP) = some (x, ⟨tk, i, e, 2, e, out⟩) := by
  unfold impl_parser_name.f
  rw [next_none K tk i e sp out h, Option.bind_some]
  simp only [jn]
  rw [if_neg (by simp), if_neg (by simp)]
  exact ⟨_, rfl⟩
theorem iname_no (K : Nat) (hK : 30 < K) (tk : List Tk) (hn : tk.length ≤ 4000) (i : Nat) (e sp : Int) (out : List Nd) {t : Tk} (h : tk[i]? = some t) (hk : ¬ (t.Kind = 3 ∧ keyB t.Text = false)) : ∃ x, impl_parser_name.f K (⟨tk, i, e, 0, sp, out⟩ : IP) = some (x, ⟨tk, ((i + 1 : Nat) : Int), e, 3, t.At, out⟩) := by
  unfold impl_parser_name.f
  rw [next_ok K tk hn i e sp out h, Option.bind_some]
  simp only [jn, impl_key t.Text K (by omega), Option.bind_some]
  rw [if_pos trivial]
  by_cases h3 : t.Kind = 3
  · rw [if_neg (by simp [h3])]
    cases hq : keyB t.Text
    · exact absurd ⟨h3, hq⟩ hk
    · rw [if_pos rfl, fault_0]
      exact ⟨_, rfl⟩
  · rw [if_pos (by simp [h3]), if_pos trivial, fault_0]
    exact ⟨_, rfl⟩
theorem iname_ok (K : Nat) (hK : 30 < K) (tk : List Tk) (hn : tk.length ≤ 4000) (i : Nat) (e sp : Int) (out : List Nd) {t : Tk} (h : tk[i]? = some t) (hk : t.Kind = 3 ∧ keyB t.Text = false) : impl_parser_name.f K (⟨tk, i, e, 0, sp, out⟩ : IP) = some (t.Text, ⟨tk, ((i + 1 : Nat) : Int), e, 0, sp, out⟩) := by
  unfold impl_parser_name.f
  rw [next_ok K tk hn i e sp out h, Option.bind_some]
  simp only [jn, impl_key t.Text K (by omega), Option.bind_some, hk.2]
  rw [if_pos trivial, if_neg (by simp [hk.1]), if_neg (by simp)]
theorem put_ok (K : Nat) (p : IP) (n : Nd) (h : p.out.length ≤ 1000000) : impl_parser_put.f K p n = some ((p.out.length : Int), ⟨p.l, p.at_, p.end_, p.code, p.spot, p.out ++ [n]⟩) := by
  unfold impl_parser_put.f
  have e : ((p.out ++ [n]).length : Int) = (p.out.length : Int) + 1 := by simp
  rw [gd_pos (by omega), e, w64_of (by omega) (by omega)]
  simp
def IRel (tk : List Tk) (e sp : Int) (B : Nat) : PR → Int → IP → Prop
  | .inl f, _, p => p.code = f.1 ∧ p.spot = f.2 ∧ p.out.length ≤ B
  | .inr r, x, p => x = (r.2.length : Int) - 1 ∧ p = ⟨tk, r.1, e, 0, sp, r.2⟩
def IRelB (tk : List Tk) (e sp : Int) (B : Nat) : (Int × Int) ⊕ (Nat × List Nd × Nd × List Int) → IP × Nd → Prop
  | .inl f, s => s.1.code = f.1 ∧ s.1.spot = f.2 ∧ s.1.out.length ≤ B
  | .inr r, s => s = (⟨tk, r.1, e, 0, sp, r.2.1⟩, putK r.2.2.1 0 r.2.2.2)
theorem impl_stop (r : IP → Option (Int × IP)) (y : ByteArray) (K k : Nat) (c j : Int) (p : IP) (n : Nd) (hc : p.code ≠ 0) (hk : 0 < k) : impl_parser_form.l0 r y K k c j p n = some (p, n) := by
  obtain ⟨k, rfl⟩ := succ_of hk
  rw [impl_parser_form.l0]
  simp only [jn]
  by_cases q : j < (y.size : Int)
  · rw [if_pos q, if_neg (by simp [hc])]
  · rw [if_neg q, if_neg (by simp)]
theorem putK_nm : ∀ (r : List Int) (n : Nd) (j : Nat), (putK n j r).Name = n.Name
  | [], n, j => rfl
  | a :: r, n, j => by
    rw [putK, putK_nm r]
    unfold setK
    split
    · rfl
    · split <;> rfl
theorem impl_body (tk : List Tk) (hn : tk.length ≤ 4000) (e sp : Int) (K d B : Nat) (hK : 5000 < K) (hB : tk.length ≤ B) (y : ByteArray) (hy : y.size ≤ 100) (r : IP → Option (Int × IP))
    (hr : ∀ i out, out.length ≤ i → i ≤ tk.length → tk.length - i < d → ∃ x p, r ⟨tk, i, e, 0, sp, out⟩ = some (x, p) ∧ IRel tk e sp B (exprE tk e d i out) x p) :
    ∀ (m j i k : Nat) (out : List Nd) (n : Nd) (ks : List Int), j + m = y.size → ks.length ≤ j → out.length ≤ i → i ≤ tk.length → tk.length - i < d → m + 1 < k →
      ∃ s, impl_parser_form.l0 r y K k (ks.length : Int) (j : Int) ⟨tk, i, e, 0, sp, out⟩ (putK n 0 ks) = some s ∧ IRelB tk e sp B (bodyE tk e (exprE tk e d) y m j i out n ks) s := by
  have stop := fun k c j p n hc hk => impl_stop r y K k c j p n hc hk
  intro m
  induction m with
  | zero =>
    intro j i k out n ks hj hks ho hi hd hk
    obtain ⟨k, rfl⟩ := succ_of (show 0 < k by omega)
    refine ⟨(⟨tk, i, e, 0, sp, out⟩, putK n 0 ks), ?_, rfl⟩
    rw [impl_parser_form.l0]
    simp only [jn]
    rw [if_neg (by omega), if_neg (by simp)]
  | succ m ih =>
    intro j i k out n ks hj hks ho hi hd hk
    obtain ⟨k, rfl⟩ := succ_of (show 0 < k by omega)
    have hl : j < y.size := by omega
    have ej : w64 ((j : Int) + 1) = ((j + 1 : Nat) : Int) := by rw [w64_of (by omega) (by omega)]; omega
    rw [impl_parser_form.l0, bodyE, dif_pos hl]
    simp only [jn]
    rw [if_pos (by omega), if_pos (by simp), atS_nat y j hl, Option.bind_some, ej]
    by_cases hc : y[j].toNat = 110
    · rw [if_pos (by omega), if_pos hc]
      cases ht : tk[i]? with
      | none =>
        obtain ⟨x, hx⟩ := iname_none K tk i e sp out ht
        rw [hx, Option.bind_some]
        simp only
        split
        · exact ⟨_, stop k _ _ _ _ (by show (2 : Int) ≠ 0; omega) (by omega), rfl, rfl, by show out.length ≤ B; omega⟩
        · exact ⟨_, stop k _ _ _ _ (by show (2 : Int) ≠ 0; omega) (by omega), rfl, rfl, by show out.length ≤ B; omega⟩
      | some t =>
        have hlt := at_lt' ht
        simp only
        by_cases hq : t.Kind = 3 ∧ keyB t.Text = false
        · rw [if_pos hq, iname_ok K (by omega) tk hn i e sp out ht hq, Option.bind_some]
          have := ih (j + 1) (i + 1) k out (setName n t.Text) ks (by omega) (by omega) (by omega) (by omega) (by omega) (by omega)
          rw [putK_name] at this
          simp only
          unfold setName at this ⊢
          split
          · rename_i q; rw [if_pos q] at this; exact this
          · rename_i q; rw [if_neg q] at this; exact this
        · rw [if_neg hq]
          obtain ⟨x, hx⟩ := iname_no K (by omega) tk hn i e sp out ht hq
          rw [hx, Option.bind_some]
          simp only
          split
          · exact ⟨_, stop k _ _ _ _ (by show (3 : Int) ≠ 0; omega) (by omega), rfl, rfl, by show out.length ≤ B; omega⟩
          · exact ⟨_, stop k _ _ _ _ (by show (3 : Int) ≠ 0; omega) (by omega), rfl, rfl, by show out.length ≤ B; omega⟩
    · rw [if_neg (by omega), if_neg hc]
      obtain ⟨x, p, h1, h2⟩ := hr i out ho hi hd
      have hok := expr_ok tk e d i out ho hi
      rw [h1, Option.bind_some]
      simp only
      have ek : w64 ((ks.length : Int) + 1) = ((ks.length + 1 : Nat) : Int) := by rw [w64_of (by omega) (by omega)]; omega
      rw [ek]
      have one : ∀ (X : Nd → Option (IP × Nd)), (if (ks.length : Int) = 0 then X ⟨(putK n 0 ks).Kind, x, (putK n 0 ks).B, (putK n 0 ks).C, (putK n 0 ks).N, (putK n 0 ks).Name, (putK n 0 ks).Other⟩
          else if (ks.length : Int) = 1 then X ⟨(putK n 0 ks).Kind, (putK n 0 ks).A, x, (putK n 0 ks).C, (putK n 0 ks).N, (putK n 0 ks).Name, (putK n 0 ks).Other⟩
          else X ⟨(putK n 0 ks).Kind, (putK n 0 ks).A, (putK n 0 ks).B, x, (putK n 0 ks).N, (putK n 0 ks).Name, (putK n 0 ks).Other⟩) = X (putK n 0 (ks ++ [x])) := fun X => by
        rw [putK_app, Nat.zero_add]
        unfold setK
        by_cases h0 : ks.length = 0
        · rw [if_pos (by omega), if_pos h0]
        · rw [if_neg (by omega), if_neg h0]
          by_cases h1 : ks.length = 1
          · rw [if_pos (by omega), if_pos h1]
          · rw [if_neg (by omega), if_neg h1]
      rw [one (fun n' => impl_parser_form.l0 r y K k ((ks.length + 1 : Nat) : Int) ((j + 1 : Nat) : Int) p n')]
      cases hx : exprE tk e d i out with
      | inl f =>
        rw [hx] at h2 hok
        refine ⟨_, stop k _ _ _ _ ?_ (by omega), h2.1, h2.2.1, h2.2.2⟩
        rw [h2.1]; exact hok
      | inr q =>
        rw [hx] at h2 hok
        obtain ⟨rfl, rfl⟩ := h2
        obtain ⟨o1, o2, o3, o4⟩ := hok
        have := ih (j + 1) q.1 k q.2 n (ks ++ [(q.2.length : Int) - 1]) (by omega) (by simp; omega) o3 o2 (by omega) (by omega)
        rw [show (ks ++ [(q.2.length : Int) - 1]).length = ks.length + 1 by simp] at this
        exact this
def formTail (r : IP → Option (Int × IP)) (K : Nat) (y6 : ByteArray) (y5 : Nd) (v8 : IP) : Option (Int × IP) :=
  jn (fun (v15, v16) => jn (fun (v41 : impl_parser) => (impl_parser_put.f K v41 v16).bind fun (y51, y52) => (some (y51, y52))) (fun j => (impl_parser_next.f K v15).bind fun (y42, y43, y44) => (jn (fun (v46 : Bool) => if v46 = true then ((impl_parser_fault.f K y44 3 y42.At).bind fun y49 => (j y49)) else (j y44)) (fun j => if y43 = true then (j (!(decide (y42.Kind = 2)))) else (j false))))) (fun j => (impl_parser_form.l0 r y6 K K 0 0 v8 y5).bind fun (v21, v22) => j (v21, v22))
theorem form_b (r : IP → Option (Int × IP)) (K : Nat) (a0 : IP) : impl_parser_form.b r K a0 = (impl_parser_next.f K a0).bind fun (y1, y2, y3) => ((impl_formOf.f K y1.Text).bind fun (y5, y6) => (jn (fun (v8 : IP) => formTail r K y6 y5 v8) (fun j => jn (fun (v9 : Bool) => if v9 = true then ((impl_parser_fault.f K y3 3 y1.At).bind fun y13 => (j y13)) else (j y3)) (fun j => if y2 = true then (if (!(decide (y1.Kind = 3))) = true then (j true) else (j (y6.toList == (⟨#[]⟩ : ByteArray).toList))) else (j false))))) := rfl
theorem tail_bad (r : IP → Option (Int × IP)) (K : Nat) (hK : 0 < K) (y : ByteArray) (n : Nd) (p : IP) (hc : p.code ≠ 0) (hb : p.out.length ≤ 900000) : ∃ x q, formTail r K y n p = some (x, q) ∧ q.code = p.code ∧ q.spot = p.spot ∧ q.out.length ≤ p.out.length + 1 := by
  unfold formTail
  simp only [jn]
  rw [impl_stop r y K K 0 0 p n hc hK, Option.bind_some]
  simp only
  rw [next_bad K p hc, Option.bind_some]
  simp only
  rw [if_neg (by simp), if_neg (by simp), put_ok K p n (by omega), Option.bind_some]
  exact ⟨_, _, rfl, rfl, rfl, by simp⟩
theorem tail_ok (tk : List Tk) (hn : tk.length ≤ 4000) (e sp : Int) (K d B : Nat) (hK : 5000 < K) (hB : tk.length ≤ B) (hB2 : B ≤ 800000) (y : ByteArray) (hy : y.size ≤ 100) (r : IP → Option (Int × IP))
    (hr : ∀ i out, out.length ≤ i → i ≤ tk.length → tk.length - i < d → ∃ x p, r ⟨tk, i, e, 0, sp, out⟩ = some (x, p) ∧ IRel tk e sp B (exprE tk e d i out) x p)
    (i : Nat) (out : List Nd) (n : Nd) (ho : out.length ≤ i) (hi : i ≤ tk.length) (hd : tk.length - i < d) :
    ∃ x q, formTail r K y n ⟨tk, i, e, 0, sp, out⟩ = some (x, q) ∧ IRel tk e sp (B + 1) (match bodyE tk e (exprE tk e d) y y.size 0 i out n [] with
            | .inl f => .inl f
            | .inr r => match tk[r.1]? with
              | none => .inl (2, e)
              | some c => if c.Kind = 2 then .inr (r.1 + 1, r.2.1 ++ [putK r.2.2.1 0 r.2.2.2]) else .inl (3, c.At)) x q := by
  obtain ⟨s, hs, hrel⟩ := impl_body tk hn e sp K d B hK hB y hy r hr y.size 0 i K out n [] (by omega) (by simp) ho hi hd (by omega)
  have hbok := body_ok tk e (exprE tk e d) y (fun i out a b => expr_ok tk e d i out a b) y.size 0 i out n [] ho hi
  unfold formTail
  simp only [jn]
  rw [show impl_parser_form.l0 r y K K 0 0 ⟨tk, i, e, 0, sp, out⟩ n = some s from hs, Option.bind_some]
  cases hb : bodyE tk e (exprE tk e d) y y.size 0 i out n [] with
  | inl f =>
    rw [hb] at hrel hbok
    have hc : s.1.code ≠ 0 := by rw [hrel.1]; exact hbok
    have hl := hrel.2.2
    simp only
    rw [next_bad K s.1 hc, Option.bind_some]
    simp only
    rw [if_neg (by simp), if_neg (by simp), put_ok K s.1 s.2 (by omega), Option.bind_some]
    exact ⟨_, _, rfl, hrel.1, hrel.2.1, by simp; omega⟩
  | inr q =>
    rw [hb] at hrel hbok
    obtain ⟨o1, o2, o3⟩ := hbok
    cases hrel
    simp only
    cases hc : tk[q.1]? with
    | none =>
      rw [next_none K tk q.1 e sp q.2.1 hc, Option.bind_some]
      simp only
      rw [if_neg (by simp), if_neg (by simp), put_ok _ _ _ (by show q.2.1.length ≤ _; omega), Option.bind_some]
      exact ⟨_, _, rfl, rfl, rfl, by simp; omega⟩
    | some c =>
      have hlt := at_lt' hc
      rw [next_ok K tk hn q.1 e sp q.2.1 hc, Option.bind_some]
      simp only
      rw [if_pos trivial]
      by_cases c2 : c.Kind = 2
      · rw [if_pos c2, if_neg (by simp [c2]), put_ok _ _ _ (by show q.2.1.length ≤ _; omega), Option.bind_some]
        exact ⟨_, _, rfl, by simp, rfl⟩
      · rw [if_neg c2, if_pos (by simp [c2]), fault_0, Option.bind_some, put_ok _ _ _ (by show q.2.1.length ≤ _; omega), Option.bind_some]
        exact ⟨_, _, rfl, rfl, rfl, by simp; omega⟩
theorem impl_expr (tk : List Tk) (hn : tk.length ≤ 4000) (e sp : Int) (K : Nat) (hK : 5000 < K) : ∀ (d i : Nat) (out : List Nd), d ≤ 100000 → out.length ≤ i → i ≤ tk.length → tk.length - i < d →
    ∃ x p, impl_parser_expr.r K d ⟨tk, i, e, 0, sp, out⟩ = some (x, p) ∧ IRel tk e sp (tk.length + d) (exprE tk e d i out) x p := by
  intro d
  induction d with
  | zero => intro i out _ _ _ h; omega
  | succ d ih =>
    intro i out hd0 ho hi hd
    have ih := fun i out => ih i out (by omega)
    rw [impl_parser_expr.r, exprE]
    unfold impl_parser_expr.b
    cases ht : tk[i]? with
    | none =>
      rw [next_none K tk i e sp out ht, Option.bind_some]
      simp only
      rw [if_pos (by simp)]
      exact ⟨_, _, rfl, rfl, rfl, by show out.length ≤ _; omega⟩
    | some t =>
      have hlt := at_lt' ht
      rw [next_ok K tk hn i e sp out ht, Option.bind_some]
      simp only [jn]
      rw [if_neg (by simp)]
      by_cases k4 : t.Kind = 4
      · simp only [if_pos k4]
        rw [put_ok _ _ _ (by show out.length ≤ _; omega)]
        exact ⟨_, _, rfl, by simp, rfl⟩
      simp only [if_neg k4]
      by_cases k3 : t.Kind = 3
      · simp only [if_pos k3]
        by_cases hnil : t.Text.data.toList = nilL
        · rw [if_pos hnil, if_pos (by rw [Lib.toList_data, Lib.toList_data, hnil]; rfl), put_ok _ _ _ (by show out.length ≤ _; omega)]
          exact ⟨_, _, rfl, by simp, rfl⟩
        · rw [if_neg hnil, if_neg (by rw [Lib.toList_data, Lib.toList_data, beq_iff_eq]; exact hnil), impl_key t.Text K (by omega), Option.bind_some]
          cases hkey : keyB t.Text
          · rw [if_pos (by simp), put_ok _ _ _ (by show out.length ≤ _; omega)]
            exact ⟨_, _, rfl, by simp, rfl⟩
          · rw [if_neg (by simp), if_neg (by omega), fault_0]
            exact ⟨_, _, rfl, rfl, rfl, by show out.length ≤ _; omega⟩
      simp only [if_neg k3]
      rw [if_neg (by simp), if_neg (by simp)]
      by_cases k1 : t.Kind = 1
      · simp only [if_pos k1]
        rw [form_b]
        simp only [jn]
        cases hh : tk[i + 1]? with
        | none =>
          rw [next_none K tk (i + 1) e sp out hh, Option.bind_some]
          simp only [impl_form, Option.bind_some]
          rw [if_neg (by simp), if_neg (by simp)]
          obtain ⟨x, q, hq, h1, h2, h3⟩ := tail_bad (impl_parser_expr.r K d) K (by omega) (formT e0).2.2 ⟨(formT e0).1, 0, 0, 0, (formT e0).2.1, e0, e0⟩ ⟨tk, ((i + 1 : Nat) : Int), e, 2, e, out⟩ (by show (2 : Int) ≠ 0; omega) (by show out.length ≤ _; omega)
          rw [hq, Option.bind_some]
          exact ⟨_, _, rfl, h1, h2, Nat.le_trans h3 (by show out.length + 1 ≤ _; omega)⟩
        | some h =>
          have hlt2 := at_lt' hh
          rw [next_ok K tk hn (i + 1) e sp out hh, Option.bind_some]
          simp only [impl_form, Option.bind_some, if_true]
          by_cases h3 : h.Kind = 3
          · rw [if_neg (by simp [h3])]
            by_cases hf : (formT h.Text).1 = 0
            · rw [if_pos (by rw [Lib.toList_data, Lib.toList_data, (form_nil h.Text).1 hf]; rfl), if_neg (fun q => q.2 hf), fault_0, Option.bind_some]
              obtain ⟨x, q, hq, h1, h2, h3⟩ := tail_bad (impl_parser_expr.r K d) K (by omega) (formT h.Text).2.2 ⟨(formT h.Text).1, 0, 0, 0, (formT h.Text).2.1, e0, e0⟩ ⟨tk, ((i + 1 + 1 : Nat) : Int), e, 3, h.At, out⟩ (by show (3 : Int) ≠ 0; omega) (by show out.length ≤ _; omega)
              rw [hq, Option.bind_some]
              exact ⟨_, _, rfl, h1, h2, Nat.le_trans h3 (by show out.length + 1 ≤ _; omega)⟩
            · rw [if_neg (by rw [Lib.toList_data, Lib.toList_data, beq_iff_eq]; exact fun q => hf ((form_nil h.Text).2 q)), if_pos ⟨h3, hf⟩]
              have hsz := form_size h.Text
              obtain ⟨x, q, hq, hrel⟩ := tail_ok tk hn e sp K d (tk.length + d) hK (by omega) (by omega) (formT h.Text).2.2 (by omega) (impl_parser_expr.r K d) ih (i + 2) out ⟨(formT h.Text).1, 0, 0, 0, (formT h.Text).2.1, e0, e0⟩ (by omega) (by omega) (by omega)
              rw [show formTail (impl_parser_expr.r K d) K (formT h.Text).2.2 ⟨(formT h.Text).1, 0, 0, 0, (formT h.Text).2.1, e0, e0⟩ ⟨tk, ((i + 1 + 1 : Nat) : Int), e, 0, sp, out⟩ = some (x, q) from hq, Option.bind_some]
              exact ⟨_, _, rfl, hrel⟩
          · rw [if_pos (by simp [h3]), if_neg (c := h.Kind = 3 ∧ (formT h.Text).1 ≠ 0) (fun q => h3 q.1), fault_0, Option.bind_some]
            obtain ⟨x, q, hq, h1, h2, h3⟩ := tail_bad (impl_parser_expr.r K d) K (by omega) (formT h.Text).2.2 ⟨(formT h.Text).1, 0, 0, 0, (formT h.Text).2.1, e0, e0⟩ ⟨tk, ((i + 1 + 1 : Nat) : Int), e, 3, h.At, out⟩ (by show (3 : Int) ≠ 0; omega) (by show out.length ≤ _; omega)
            rw [hq, Option.bind_some]
            exact ⟨_, _, rfl, h1, h2, Nat.le_trans h3 (by show out.length + 1 ≤ _; omega)⟩
      · rw [if_neg k1, if_neg k1, fault_0]
        exact ⟨_, _, rfl, rfl, rfl, by show out.length ≤ _; omega⟩
end Go.Proofs.YtfkanjgfjejgiaaDoorE
