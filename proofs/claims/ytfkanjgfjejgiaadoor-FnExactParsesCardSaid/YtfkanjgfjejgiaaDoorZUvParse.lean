/- The program's parser and the reference's: both do what exprE does. First the model, and the reference. -/
import Derived.Test.YtfkanjgfjejgiaaDoorZUvLex2
set_option linter.unusedSimpArgs false
set_option linter.unusedVariables false
namespace Go.Proofs.YtfkanjgfjejgiaaDoorE
open Go.Ev Go.RowKit
set_option linter.unusedVariables false
abbrev e0 : ByteArray := ⟨#[]⟩
theorem map_ite {α β : Type} {c : Prop} [Decidable c] (f : α → β) (a b : Option α) : Option.map f (if c then a else b) = if c then Option.map f a else Option.map f b := by split <;> rfl
theorem bind_ite {α β : Type} {c : Prop} [Decidable c] (f : α → Option β) (a b : Option α) : Option.bind (if c then a else b) f = if c then Option.bind a f else Option.bind b f := by split <;> rfl
def formT (t : ByteArray) : Int × Int × ByteArray := (spec_l4Form.f 0 t).getD (0, 0, e0)
def FormP (o : Option (Int × Int × ByteArray)) : Prop := ∃ r, o = some r ∧ r.2.2.size ≤ 5 ∧ (r.1 = 0 ↔ r.2.2.data.toList = [])
theorem formP_ite {c : Prop} [Decidable c] {a b : Option (Int × Int × ByteArray)} (ha : FormP a) (hb : FormP b) : FormP (if c then a else b) := by split <;> assumption
theorem form_some (t : ByteArray) : FormP (spec_l4Form.f 0 t) := by
  unfold spec_l4Form.f
  repeat' (first | exact ⟨_, rfl, by decide, by decide⟩ | refine formP_ite ?_ ?_)
theorem spec_form (K : Nat) (t : ByteArray) : spec_l4Form.f K t = some (formT t) := by
  obtain ⟨r, h, _⟩ := form_some t
  unfold formT
  rw [h]; exact h
theorem form_size (t : ByteArray) : (formT t).2.2.size ≤ 5 := by
  obtain ⟨r, h, q, _⟩ := form_some t
  unfold formT; rw [h]; exact q
theorem form_nil (t : ByteArray) : (formT t).1 = 0 ↔ (formT t).2.2.data.toList = [] := by
  obtain ⟨r, h, _, q⟩ := form_some t
  unfold formT; rw [h]; exact q
theorem form_empty : formT e0 = (0, 0, e0) := by
  unfold formT spec_l4Form.f
  simp only [Lib.toList_data]
  rfl
theorem impl_form (K : Nat) (t : ByteArray) : impl_formOf.f K t = some ((⟨(formT t).1, 0, 0, 0, (formT t).2.1, e0, e0⟩ : Nd), (formT t).2.2) := by
  have h : impl_formOf.f K t = (spec_l4Form.f K t).map fun r => ((⟨r.1, 0, 0, 0, r.2.1, e0, e0⟩ : Nd), r.2.2) := by
    unfold impl_formOf.f impl_plainForm.f spec_l4Form.f
    simp only [Lib.toList_data, beq_iff_eq]
    by_cases hm : t.data.toList = [109, 97, 116, 99, 104]
    · simp [hm]
    by_cases ht : t.data.toList = [116, 114, 121]
    · simp [ht]
    simp only [hm, ht, if_false, map_ite, bind_ite, Option.bind_some, Option.map_some]
  rw [h, spec_form]; rfl
def setName (n : Nd) (x : ByteArray) : Nd := if (n.Name.toList == e0.toList) = true then ⟨n.Kind, n.A, n.B, n.C, n.N, x, n.Other⟩ else ⟨n.Kind, n.A, n.B, n.C, n.N, n.Name, x⟩
def setK (n : Nd) (j : Nat) (a : Int) : Nd := if j = 0 then ⟨n.Kind, a, n.B, n.C, n.N, n.Name, n.Other⟩ else if j = 1 then ⟨n.Kind, n.A, a, n.C, n.N, n.Name, n.Other⟩ else ⟨n.Kind, n.A, n.B, a, n.N, n.Name, n.Other⟩
def putK (n : Nd) : Nat → List Int → Nd
  | _, [] => n
  | j, a :: r => putK (setK n j a) (j + 1) r
theorem putK_app (a : Int) : ∀ (r : List Int) (n : Nd) (j : Nat), putK n j (r ++ [a]) = setK (putK n j r) (j + r.length) a
  | [], n, j => rfl
  | b :: r, n, j => by
    rw [List.cons_append, putK, putK_app a r, putK, List.length_cons]
    congr 1; omega
theorem setK_name (n : Nd) (j : Nat) (a : Int) (x : ByteArray) : setK (setName n x) j a = setName (setK n j a) x := by
  by_cases hc : (n.Name.toList == e0.toList) = true
  · by_cases h0 : j = 0
    · simp only [setK, setName, if_pos h0, if_pos hc]
    · by_cases h1 : j = 1
      · simp only [setK, setName, if_neg h0, if_pos h1, if_pos hc]
      · simp only [setK, setName, if_neg h0, if_neg h1, if_pos hc]
  · by_cases h0 : j = 0
    · simp only [setK, setName, if_pos h0, if_neg hc]
    · by_cases h1 : j = 1
      · simp only [setK, setName, if_neg h0, if_pos h1, if_neg hc]
      · simp only [setK, setName, if_neg h0, if_neg h1, if_neg hc]
theorem putK_name (x : ByteArray) : ∀ (r : List Int) (n : Nd) (j : Nat), putK (setName n x) j r = setName (putK n j r) x
  | [], n, j => rfl
  | b :: r, n, j => by rw [putK, setK_name, putK_name x r, putK]

/-! ### What both do -/
abbrev PR := (Int × Int) ⊕ (Nat × List Nd)
def bodyE (tk : List Tk) (e : Int) (rec : Nat → List Nd → PR) (y : ByteArray) : Nat → Nat → Nat → List Nd → Nd → List Int → (Int × Int) ⊕ (Nat × List Nd × Nd × List Int)
  | 0, _, i, out, n, ks => .inr (i, out, n, ks)
  | m + 1, j, i, out, n, ks => if h : j < y.size then
      (if y[j].toNat = 110 then
        (match tk[i]? with
        | none => .inl (2, e)
        | some t => if t.Kind = 3 ∧ keyB t.Text = false then bodyE tk e rec y m (j + 1) (i + 1) out (setName n t.Text) ks else .inl (3, t.At))
      else match rec i out with
        | .inl f => .inl f
        | .inr r => bodyE tk e rec y m (j + 1) r.1 r.2 n (ks ++ [(r.2.length : Int) - 1]))
    else .inr (i, out, n, ks)
def nilL : List UInt8 := [110, 105, 108]
def exprE (tk : List Tk) (e : Int) : Nat → Nat → List Nd → PR
  | 0, _, _ => .inl (2, e)
  | d + 1, i, out => match tk[i]? with
    | none => .inl (2, e)
    | some t =>
      if t.Kind = 4 then .inr (i + 1, out ++ [⟨2, 0, 0, 0, t.N, e0, e0⟩])
      else if t.Kind = 3 then
        (if t.Text.data.toList = nilL then .inr (i + 1, out ++ [⟨12, 0, 0, 0, 0, e0, e0⟩])
        else if keyB t.Text = true then .inl (3, t.At)
        else .inr (i + 1, out ++ [⟨1, 0, 0, 0, 0, t.Text, e0⟩]))
      else if t.Kind = 1 then
        (match tk[i + 1]? with
        | none => .inl (2, e)
        | some h => if h.Kind = 3 ∧ (formT h.Text).1 ≠ 0 then
            (match bodyE tk e (exprE tk e d) (formT h.Text).2.2 (formT h.Text).2.2.size 0 (i + 2) out ⟨(formT h.Text).1, 0, 0, 0, (formT h.Text).2.1, e0, e0⟩ [] with
            | .inl f => .inl f
            | .inr r => match tk[r.1]? with
              | none => .inl (2, e)
              | some c => if c.Kind = 2 then .inr (r.1 + 1, r.2.1 ++ [putK r.2.2.1 0 r.2.2.2]) else .inl (3, c.At))
          else .inl (3, h.At))
      else .inl (3, t.At)
/-- What an answer is like. -/
def Okd (n i : Nat) : PR → Prop
  | .inl f => f.1 ≠ 0
  | .inr r => i < r.1 ∧ r.1 ≤ n ∧ r.2.length ≤ r.1 ∧ 0 < r.2.length
def OkB (n i : Nat) : (Int × Int) ⊕ (Nat × List Nd × Nd × List Int) → Prop
  | .inl f => f.1 ≠ 0
  | .inr r => i ≤ r.1 ∧ r.1 ≤ n ∧ r.2.1.length ≤ r.1
theorem at_lt' {tk : List Tk} {i : Nat} {t : Tk} (h : tk[i]? = some t) : i < tk.length := by
  rw [List.getElem?_eq_some_iff] at h; exact h.1
theorem body_ok (tk : List Tk) (e : Int) (rec : Nat → List Nd → PR) (y : ByteArray) (hr : ∀ i out, out.length ≤ i → i ≤ tk.length → Okd tk.length i (rec i out)) :
    ∀ (m j i : Nat) (out : List Nd) (n : Nd) (ks : List Int), out.length ≤ i → i ≤ tk.length → OkB tk.length i (bodyE tk e rec y m j i out n ks)
  | 0, j, i, out, n, ks, h1, h2 => ⟨Nat.le_refl _, h2, h1⟩
  | m + 1, j, i, out, n, ks, h1, h2 => by
    have step : ∀ (i1 : Nat) (x : (Int × Int) ⊕ (Nat × List Nd × Nd × List Int)), i ≤ i1 → OkB tk.length i1 x → OkB tk.length i x := fun i1 x hi hx => by
      cases x with
      | inl f => exact hx
      | inr r => exact ⟨Nat.le_trans hi hx.1, hx.2.1, hx.2.2⟩
    rw [bodyE]
    split
    · split
      · split
        · show (2 : Int) ≠ 0; omega
        · rename_i t ht
          have := at_lt' ht
          split
          · exact step (i + 1) _ (by omega) (body_ok tk e rec y hr m (j + 1) (i + 1) out _ ks (by omega) (by omega))
          · show (3 : Int) ≠ 0; omega
      · have q := hr i out h1 h2
        split
        · rename_i f hf; rw [hf] at q; exact q
        · rename_i r hf
          rw [hf] at q
          exact step r.1 _ (by have := q.1; omega) (body_ok tk e rec y hr m (j + 1) r.1 r.2 n _ q.2.2.1 q.2.1)
    · exact ⟨Nat.le_refl _, h2, h1⟩
theorem expr_ok (tk : List Tk) (e : Int) : ∀ (d i : Nat) (out : List Nd), out.length ≤ i → i ≤ tk.length → Okd tk.length i (exprE tk e d i out)
  | 0, i, out, _, _ => by show (2 : Int) ≠ 0; omega
  | d + 1, i, out, h1, h2 => by
    have c2 : (2 : Int) ≠ 0 := by omega
    have c3 : (3 : Int) ≠ 0 := by omega
    have one : ∀ (x : Nd), i < tk.length → Okd tk.length i (.inr (i + 1, out ++ [x])) := fun x h => ⟨by show i < i + 1; omega, h, by simp; omega, by simp⟩
    rw [exprE]
    split
    · exact c2
    · rename_i t ht
      have hi := at_lt' ht
      split
      · exact one _ hi
      · split
        · split
          · exact one _ hi
          · split
            · exact c3
            · exact one _ hi
        · split
          · split
            · exact c2
            · rename_i h hh
              have hi2 := at_lt' hh
              split
              · have q := body_ok tk e (exprE tk e d) (formT h.Text).2.2 (fun i out a b => expr_ok tk e d i out a b) (formT h.Text).2.2.size 0 (i + 2) out ⟨(formT h.Text).1, 0, 0, 0, (formT h.Text).2.1, e0, e0⟩ [] (by omega) (by omega)
                split
                · rename_i f hf; rw [hf] at q; exact q
                · rename_i r hf
                  rw [hf] at q
                  split
                  · exact c2
                  · rename_i c hc
                    have hi3 := at_lt' hc
                    split
                    · have q1 := q.1; have q2 := q.2.1; have q3 := q.2.2
                      exact ⟨by show i < r.1 + 1; omega, hi3, by simp; omega, by simp⟩
                    · exact c3
              · exact c3
          · exact c3
end Go.Proofs.YtfkanjgfjejgiaaDoorE
