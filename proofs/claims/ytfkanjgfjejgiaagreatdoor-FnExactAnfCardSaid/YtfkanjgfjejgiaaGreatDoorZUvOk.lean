/- NodesOk: the program's and the reference's come to one function; what a right program's nodes are like. -/
import Derived.Test.YtfkanjgfjejgiaaGreatDoorZUvNode2
set_option linter.unusedSimpArgs false
set_option linter.unusedVariables false
namespace Go.Proofs.YtfkanjgfjejgiaaGreatDoorE
open Go.Ev
set_option linter.unusedVariables false
/-- From the node behind the last part down over the parts before j: where they begin. -/
def down (ss ks : List Int) : Nat → Int → Option Int
  | 0, a => some a
  | j + 1, a => if ks.getD j 0 = a - 1 ∧ 1 ≤ a then down ss ks j (ss.getD (a - 1).toNat 0) else none
def startsGo : List Nd → List Int → Option (List Int)
  | [], ss => some ss
  | n :: r, ss => if fieldsB n = true then (match down ss (kids n) (arityN n.Kind) ss.length with | none => none | some a => startsGo r (ss ++ [a])) else none
def nodesOkB (l : List Nd) : Bool := inB (l.length : Int) 1 150 && (match startsGo l [] with | none => false | some ss => decide (ss.getD (l.length - 1) 0 = 0))
def Starts (ss : List Int) : Prop := ∀ j, j < ss.length → 0 ≤ ss.getD j 0 ∧ ss.getD j 0 ≤ j
theorem getD_left {α : Type} (l m : List α) (d : α) (i : Nat) (h : i < l.length) : (l ++ m).getD i d = l.getD i d := by
  simp [List.getD, List.getElem?_append_left h]
theorem getD_right {α : Type} (l m : List α) (d : α) (i : Nat) (h : l.length ≤ i) : (l ++ m).getD i d = m.getD (i - l.length) d := by
  simp [List.getD, List.getElem?_append_right h]
theorem at_getD {α : Type} (l : List α) (d : α) (i : Nat) (h : i < l.length) : at_ l (i : Int) = some (l.getD i d) := by
  rw [at_in l i h]; simp [List.getD, h]
theorem down_pos {ss ks : List Int} {j : Nat} {a : Int} (h : ks.getD j 0 = a - 1) (h1 : 1 ≤ a) : down ss ks (j + 1) a = down ss ks j (ss.getD (a - 1).toNat 0) := by rw [down, if_pos ⟨h, h1⟩]
theorem down_neg {ss ks : List Int} {j : Nat} {a : Int} (h : ¬ (ks.getD j 0 = a - 1 ∧ 1 ≤ a)) : down ss ks (j + 1) a = none := by rw [down, if_neg h]
theorem down_le {ss ks : List Int} (hs : Starts ss) (j : Nat) : ∀ (a b : Int), 0 ≤ a → a ≤ ss.length → down ss ks j a = some b → 0 ≤ b ∧ b ≤ a := by
  induction j with
  | zero => intro a b h0 h1 h; simp only [down] at h; cases h; exact ⟨h0, Int.le_refl _⟩
  | succ j ih =>
    intro a b h0 h1 h
    simp only [down] at h
    split at h
    · rename_i hc
      have := hs (a - 1).toNat (by omega)
      have := ih _ b this.1 (by omega) h
      omega
    · cases h
theorem down_app {ss u ks : List Int} (hs : Starts ss) (j : Nat) : ∀ (a : Int), 0 ≤ a → a ≤ ss.length → down (ss ++ u) ks j a = down ss ks j a := by
  induction j with
  | zero => intro a h0 h1; rfl
  | succ j ih =>
    intro a h0 h1
    simp only [down]
    split
    · rename_i hc
      rw [getD_left _ _ _ _ (by omega)]
      have := hs (a - 1).toNat (by omega)
      exact ih _ this.1 (by omega)
    · rfl
theorem Starts.snoc {ss : List Int} (hs : Starts ss) {b : Int} (h0 : 0 ≤ b) (h1 : b ≤ ss.length) : Starts (ss ++ [b]) := by
  intro j hj
  simp at hj
  by_cases h : j < ss.length
  · rw [getD_left _ _ _ _ h]; exact hs j h
  · have e : j = ss.length := by omega
    subst e
    rw [getD_right _ _ _ _ (Nat.le_refl _)]
    simpa using ⟨h0, h1⟩
theorem starts_nil : Starts [] := fun j hj => by simp at hj

/-! ### the reference's -/
theorem spec_down {ss ks : List Int} (hs : Starts ss) (hi : ss.length ≤ 1000) (hl : ks.length ≤ 3) (K : Nat) (j : Nat) : ∀ (k : Nat) (a : Int), 0 ≤ a → a ≤ ss.length → j < k → j ≤ ks.length →
    spec_l3Starts.l1 ss ks K k a ((j : Int) - 1) = some (match down ss ks j a with | none => .inl ([], false) | some b => .inr b) := by
  induction j with
  | zero =>
    intro k a h0 h1 hk hj
    obtain ⟨k, rfl⟩ := succ_of hk
    rw [spec_l3Starts.l1, if_neg (by omega)]
    rfl
  | succ j ih =>
    intro k a h0 h1 hk hj
    obtain ⟨k, rfl⟩ := succ_of hk
    have e : ((j + 1 : Nat) : Int) - 1 = (j : Int) := by omega
    rw [spec_l3Starts.l1, e, if_pos (by omega)]
    simp only [jn, at_getD ks 0 j (by omega), Option.bind_some]
    rw [w64_of (x := a - 1) (by omega) (by omega), w64_of (x := (j : Int) - 1) (by omega) (by omega)]
    by_cases hx : ks.getD j 0 = a - 1
    · by_cases h1a : 1 ≤ a
      · rw [down_pos hx h1a]
        have hm : a - 1 = ((a - 1).toNat : Int) := by omega
        have st := hs (a - 1).toNat (by omega)
        have q := at_getD ss 0 (a - 1).toNat (by omega)
        rw [← hm] at q
        have n0 : ¬ (a - 1 < 0) := by omega
        simp only [hx, q, decide_true, Bool.not_true, Bool.false_eq_true, if_false, n0, decide_false, Option.bind_some]
        exact ih k _ st.1 (by omega) (by omega) (by omega)
      · rw [down_neg (fun h => h1a h.2)]
        have n0 : a - 1 < 0 := by omega
        simp only [hx, decide_true, Bool.not_true, Bool.false_eq_true, if_false, n0, if_true]
    · rw [down_neg (fun h => hx h.1)]
      simp only [hx, decide_false, Bool.not_false, if_true]
theorem spec_starts (K : Nat) (hK : big ≤ K) (r : List Nd) : ∀ (k : Nat) (p : List Nd) (ss : List Int), p.length = ss.length → Starts ss → (∀ n ∈ r, small n) → r.length < k → p.length + r.length ≤ 150 →
    spec_l3Starts.l0 (p ++ r) K k p.length ss = some (match startsGo r ss with | none => .inl ([], false) | some t => .inr t) := by
  unfold big at hK
  induction r with
  | nil =>
    intro k p ss hp hs hsm hk hl
    obtain ⟨k, rfl⟩ := succ_of hk
    rw [spec_l3Starts.l0, if_neg (by simp)]
    rfl
  | cons n r ih =>
    intro k p ss hp hs hsm hk hl
    obtain ⟨k, rfl⟩ := succ_of hk
    simp only [List.length_cons] at hk hl
    rw [spec_l3Starts.l0, if_pos (by simp; omega), at_mid, startsGo]
    have kl := kids_len n
    have al := arity_le n.Kind
    simp only [Option.bind_some, spec_fields n (hsm n (by simp)) K hK, spec_kids, jn]
    cases fieldsB n
    · rfl
    simp only [Bool.not_true, Bool.false_eq_true, if_false, if_true]
    rw [w64_of (x := ((kids n).length : Int) - 1) (by omega) (by omega), kl, hp, spec_down hs (by omega) (by omega) K (arityN n.Kind) K _ (by omega) (by omega) (by omega) (by omega)]
    cases hd : down ss (kids n) (arityN n.Kind) ss.length with
    | none => rfl
    | some b =>
      have hb := down_le hs _ _ _ (by omega) (by omega) hd
      simp only [lb]
      rw [gd_pos (by omega), w64_of (by omega) (by omega), show p ++ n :: r = (p ++ [n]) ++ r by simp]
      have e : ((ss.length : Int) + 1) = ((p ++ [n]).length : Int) := by simp [hp]
      rw [e]
      exact ih k (p ++ [n]) (ss ++ [b]) (by simp [hp]) (hs.snoc hb.1 hb.2) (fun m hm => hsm m (by simp [hm])) (by omega) (by simp; omega)
theorem go_len (r : List Nd) : ∀ (ss t : List Int), startsGo r ss = some t → t.length = ss.length + r.length := by
  induction r with
  | nil => intro ss t h; cases h; simp
  | cons n r ih =>
    intro ss t h
    simp only [startsGo] at h
    split at h
    · split at h
      · cases h
      · have := ih _ _ h; simp at this; simp; omega
    · cases h
theorem spec_nodesOk (l : List Nd) (hn : l.length ≤ 1048576) (hsm : ∀ n ∈ l, small n) (K : Nat) (hk : big ≤ K) : spec_NodesOk.f K l = some (nodesOkB l) := by
  have hk' := hk
  unfold big at hk'
  unfold spec_NodesOk.f nodesOkB
  rw [spec_inB, Option.bind_some]
  cases hr : inB (l.length : Int) 1 150 with
  | false => rfl
  | true =>
    unfold inB at hr
    simp only [Bool.and_eq_true, decide_eq_true_eq] at hr
    simp only [Bool.not_true, Bool.false_eq_true, if_false, Bool.true_and]
    unfold spec_l3Starts.f jn
    have q := spec_starts K hk l K [] [] rfl starts_nil hsm (by omega) (by simp; omega)
    rw [List.nil_append] at q
    rw [show (0 : Int) = (([] : List Nd).length : Int) from rfl, q]
    cases hg : startsGo l [] with
    | none => rfl
    | some t =>
      have tl := go_len _ _ _ hg
      simp at tl
      simp only [lb, Option.bind_some, if_true]
      rw [w64_of (by omega) (by omega), show (l.length : Int) - 1 = ((l.length - 1 : Nat) : Int) by omega, at_getD t 0 _ (by omega), Option.bind_some]
      simp

/-! ### the program's -/
theorem set_mid (ss : List Int) (d : Nat) (b : Int) : (ss ++ List.replicate (d + 1) 0).set ss.length b = (ss ++ [b]) ++ List.replicate d 0 := by
  simp [List.set_append, List.replicate_succ]
theorem impl_down {ss ks u : List Int} (hs : Starts ss) (hi : ss.length ≤ 1000) (hl : ks.length ≤ 3) (K : Nat) (j : Nat) : ∀ (k : Nat) (a : Int), 0 ≤ a → a ≤ ss.length → j < k → j ≤ ks.length →
    impl_NodesOk.l1 (ss ++ u) ks K k a ((j : Int) - 1) = some (match down ss ks j a with | none => .inl false | some b => .inr b) := by
  induction j with
  | zero =>
    intro k a h0 h1 hk hj
    obtain ⟨k, rfl⟩ := succ_of hk
    rw [impl_NodesOk.l1, if_neg (by omega)]
    rfl
  | succ j ih =>
    intro k a h0 h1 hk hj
    obtain ⟨k, rfl⟩ := succ_of hk
    have e : ((j + 1 : Nat) : Int) - 1 = (j : Int) := by omega
    rw [impl_NodesOk.l1, e, if_pos (by omega)]
    simp only [jn, at_getD ks 0 j (by omega), Option.bind_some]
    rw [w64_of (x := a - 1) (by omega) (by omega), w64_of (x := (j : Int) - 1) (by omega) (by omega)]
    by_cases h1a : a = 0
    · rw [if_pos h1a, down_neg (fun h => by omega)]
      rfl
    · rw [if_neg h1a]
      by_cases hx : ks.getD j 0 = a - 1
      · rw [down_pos hx (by omega)]
        have hm : a - 1 = ((a - 1).toNat : Int) := by omega
        have st := hs (a - 1).toNat (by omega)
        have q := at_getD (ss ++ u) 0 (a - 1).toNat (by simp; omega)
        rw [← hm, getD_left _ _ _ _ (by omega)] at q
        simp only [hx, decide_true, Bool.not_true, Bool.false_eq_true, if_false, q, Option.bind_some]
        exact ih k _ st.1 (by omega) (by omega) (by omega)
      · rw [down_neg (fun h => hx h.1)]
        simp only [hx, decide_false, Bool.not_false, if_true]
theorem impl_starts (K : Nat) (hK : big ≤ K) (r : List Nd) : ∀ (k : Nat) (p : List Nd) (ss : List Int), p.length = ss.length → Starts ss → (∀ n ∈ r, small n) → r.length < k → p.length + r.length ≤ 150 →
    impl_NodesOk.l0 (p ++ r) K k p.length (ss ++ List.replicate r.length 0) = some (match startsGo r ss with | none => .inl false | some t => .inr t) := by
  unfold big at hK
  induction r with
  | nil =>
    intro k p ss hp hs hsm hk hl
    obtain ⟨k, rfl⟩ := succ_of hk
    rw [impl_NodesOk.l0, if_neg (by simp)]
    simp [startsGo]
  | cons n r ih =>
    intro k p ss hp hs hsm hk hl
    obtain ⟨k, rfl⟩ := succ_of hk
    simp only [List.length_cons] at hk hl ⊢
    rw [impl_NodesOk.l0, if_pos (by simp; omega), at_mid, startsGo]
    have kl := kids_len n
    have al := arity_le n.Kind
    simp only [Option.bind_some, impl_fields n (hsm n (by simp)) K hK, impl_kids, jn]
    cases fieldsB n
    · rfl
    simp only [Bool.not_true, Bool.false_eq_true, if_false, if_true]
    rw [w64_of (x := ((kids n).length : Int) - 1) (by omega) (by omega), kl, hp, impl_down hs (by omega) (by omega) K (arityN n.Kind) K _ (by omega) (by omega) (by omega) (by omega)]
    cases hd : down ss (kids n) (arityN n.Kind) ss.length with
    | none => rfl
    | some b =>
      have hb := down_le hs _ _ _ (by omega) (by omega) hd
      simp only [lb]
      rw [at_getD (ss ++ List.replicate (r.length + 1) 0) 0 ss.length (by simp), Option.bind_some, Int.toNat_natCast, set_mid, w64_of (by omega) (by omega), show p ++ n :: r = (p ++ [n]) ++ r by simp]
      have e : ((ss.length : Int) + 1) = ((p ++ [n]).length : Int) := by simp [hp]
      rw [e]
      exact ih k (p ++ [n]) (ss ++ [b]) (by simp [hp]) (hs.snoc hb.1 hb.2) (fun m hm => hsm m (by simp [hm])) (by omega) (by simp; omega)
theorem impl_nodesOk (l : List Nd) (hn : l.length ≤ 1048576) (hsm : ∀ n ∈ l, small n) (K : Nat) (hk : big ≤ K) : impl_NodesOk.f K l = some (nodesOkB l) := by
  have hk' := hk
  unfold big at hk'
  unfold impl_NodesOk.f nodesOkB
  rw [impl_inB, Option.bind_some]
  cases hr : inB (l.length : Int) 1 150 with
  | false => rfl
  | true =>
    unfold inB at hr
    simp only [Bool.and_eq_true, decide_eq_true_eq] at hr
    simp only [Bool.not_true, Bool.false_eq_true, if_false, Bool.true_and]
    rw [gd_pos (by omega)]
    unfold jn
    have q := impl_starts K hk l K [] [] rfl starts_nil hsm (by omega) (by simp; omega)
    rw [List.nil_append, List.nil_append] at q
    rw [show (0 : Int) = (([] : List Nd).length : Int) from rfl, Int.toNat_natCast, show (([] : List Nd).length : Int) = 0 from rfl] at *
    rw [q]
    cases hg : startsGo l [] with
    | none => rfl
    | some t =>
      have tl := go_len _ _ _ hg
      simp at tl
      simp only [lb]
      rw [w64_of (by omega) (by omega), show (l.length : Int) - 1 = ((l.length - 1 : Nat) : Int) by omega, at_getD t 0 _ (by omega), Option.bind_some]

/-! ### what right nodes are like -/
theorem go_all (r : List Nd) : ∀ (ss t : List Int), Starts ss → startsGo r ss = some t → Starts t ∧ (∃ u, t = ss ++ u) ∧ ∀ j, (h : j < r.length) → fieldsB r[j] = true ∧ down t (kids r[j]) (arityN r[j].Kind) (ss.length + j : Nat) = some (t.getD (ss.length + j) 0) := by
  induction r with
  | nil => intro ss t hs h; cases h; exact ⟨hs, ⟨[], by simp⟩, fun j h => by simp at h⟩
  | cons n r ih =>
    intro ss t hs h
    simp only [startsGo] at h
    split at h
    · rename_i hf
      split at h
      · cases h
      · rename_i a ha
        have hb := down_le hs _ _ _ (by omega) (by omega) ha
        obtain ⟨st, ⟨u, rfl⟩, q⟩ := ih _ _ (hs.snoc hb.1 hb.2) h
        refine ⟨st, ⟨a :: u, by simp⟩, fun j hj => ?_⟩
        cases j with
        | zero =>
          refine ⟨hf, ?_⟩
          rw [Nat.add_zero, List.getElem_cons_zero, List.append_assoc, down_app hs _ _ (by omega) (by omega), ha, getD_right _ _ _ _ (Nat.le_refl _)]
          simp
        | succ j =>
          have := q j (by simpa using hj)
          rw [show (ss ++ [a]).length + j = ss.length + (j + 1) by simp; omega] at this
          exact this
    · cases h
/-- Where the parts of a right program begin. -/
theorem ok_all {l : List Nd} (h : nodesOkB l = true) : 1 ≤ l.length ∧ l.length ≤ 150 ∧ ∃ ss, Starts ss ∧ ss.length = l.length ∧ ∀ j, (h : j < l.length) → fieldsB l[j] = true ∧ down ss (kids l[j]) (arityN l[j].Kind) j = some (ss.getD j 0) := by
  unfold nodesOkB inB at h
  simp only [Bool.and_eq_true, decide_eq_true_eq] at h
  obtain ⟨⟨h1, h2⟩, h3⟩ := h
  refine ⟨by omega, by omega, ?_⟩
  cases hg : startsGo l [] with
  | none => rw [hg] at h3; cases h3
  | some t =>
    obtain ⟨st, _, q⟩ := go_all l [] t starts_nil hg
    have tl := go_len _ _ _ hg
    refine ⟨t, st, by simpa using tl, fun j hj => ?_⟩
    have := q j hj
    simpa using this
end Go.Proofs.YtfkanjgfjejgiaaGreatDoorE
