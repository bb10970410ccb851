/- Programs as texts: a part prints as it does in its place; every part has a text. -/
import Derived.Test.YtfkanjgfjejgiaaDoorZUvNds
import Derived.Test.YtfkanjgfjejgiaaDoorZUvDr
import Derived.Lib.Join
set_option linter.unusedSimpArgs false
set_option linter.unusedVariables false
namespace Go.Proofs.YtfkanjgfjejgiaaDoorE
open Go.Ev Go.RowKit
set_option linter.unusedVariables false
set_option linter.unusedSimpArgs false
abbrev PrF := List Nd → Int → Option ByteArray
theorem pn_l0 (r r' : PrF) (l p : List Nd) (s : Int) (y : ByteArray) (K : Nat) : ∀ (k : Nat) (ns : List ByteArray) (ks : List Int) (x : Int) (ws : List ByteArray), (∀ c ∈ ks, r l c = r' p (c - s)) →
    impl_printNode.l0 r l y K k ns ks x ws = impl_printNode.l0 r' p y K k ns (ks.map (· - s)) x ws := by
  intro k
  induction k with
  | zero => intro ns ks x ws _; rfl
  | succ k ih =>
    intro ns ks x ws hr
    rw [impl_printNode.l0, impl_printNode.l0]
    simp only [jn]
    split
    · refine congrArg (fun f => (atS y x).bind f) (funext fun ch => ?_)
      split
      · cases at_ ns 0 with
        | none => rfl
        | some n =>
          simp only [Option.bind_some]
          rw [ih _ ks _ _ hr]
      · cases ks with
        | nil => rfl
        | cons c ks =>
          have e1 : at_ (c :: ks) 0 = some c := rfl
          have e2 : at_ ((c :: ks).map (· - s)) 0 = some (c - s) := rfl
          rw [e1, e2, Option.bind_some, Option.bind_some, hr c (by simp)]
          cases r' p (c - s) with
          | none => rfl
          | some t =>
            simp only [Option.bind_some, List.length_map]
            have e3 : (List.map (· - s) (c :: ks)).drop (1 : Int).toNat = ks.map (· - s) := rfl
            have e4 : (c :: ks).drop (1 : Int).toNat = ks := rfl
            rw [e3, e4, ih ns ks _ _ fun d hd => hr d (by simp [hd])]
    · rfl
theorem pn_shift {l : List Nd} (h : nodesOkB l = true) (i s : Nat) (hi : i < l.length) (hs : rd (startsL l) (i : Int) = s) (K : Nat) : ∀ (k j : Nat), j ≤ i → (s : Int) ≤ rd (startsL l) (j : Int) → s ≤ j →
    impl_printNode.r K k l (j : Int) = impl_printNode.r K k (partL l s i) ((j : Int) - s) := by
  intro k
  induction k with
  | zero => intro j _ _ _; rfl
  | succ k ih =>
    intro j hj hsj hj2
    have hsi : s ≤ i := by have := st_le h i hi; omega
    have hlen := ok_len h
    obtain ⟨_, hst, hd⟩ := startsL_ok h
    rw [impl_printNode.r, impl_printNode.r]
    unfold impl_printNode.b
    rw [at_nd l j (by omega), show (j : Int) - s = ((j - s : Nat) : Int) by omega, at_nd _ (j - s) (by rw [part_len l s i hi]; omega), part_nd l s i (j - s) hi (by omega), show s + (j - s) = j by omega, Option.bind_some, Option.bind_some]
    generalize hn : nd l j = n
    show (if n.Kind = 2 then _ else _) = (if n.Kind = 2 then _ else _)
    split
    · rfl
    show (if n.Kind = 1 then _ else _) = (if n.Kind = 1 then _ else _)
    split
    · rfl
    show (if n.Kind = 12 then _ else _) = (if n.Kind = 12 then _ else _)
    split
    · rfl
    show (impl_KeyOf.f K n).bind _ = (impl_KeyOf.f K n).bind _
    refine congrArg (fun f => (impl_KeyOf.f K n).bind f) (funext fun key => ?_)
    refine congrArg (fun f => (impl_formOf.f K key).bind f) (funext fun ⟨_, shape⟩ => ?_)
    simp only [jn]
    rw [impl_kids, impl_kids, Option.bind_some, Option.bind_some, mov_kids]
    show (impl_printNode.l0 _ l shape K K [n.Name, n.Other] (kids n) 0 [key]).bind _ = (impl_printNode.l0 _ _ shape K K [n.Name, n.Other] _ 0 [key]).bind _
    rw [pn_l0 (impl_printNode.r K k) (impl_printNode.r K k) l (partL l s i) s shape K K [n.Name, n.Other] (kids n) 0 [key] fun c hc => ?_]
    obtain ⟨m, hm, rfl⟩ := List.getElem_of_mem hc
    rw [kids_len] at hm
    have em : (kids n)[m]'(by rw [kids_len]; exact hm) = rd (kids n) (m : Int) := by simp [rd, List.getD, kids_len, hm]
    rw [em]
    have hk := ok_kids h j (by omega) m (by rw [hn]; exact hm)
    rw [hn] at hk
    have hdn := down_kids hst _ _ _ (by omega) (by omega) (hd j (by omega)) m (by rw [hn]; exact hm)
    rw [hn] at hdn
    obtain ⟨q, hq⟩ : ∃ q : Nat, rd (kids n) (m : Int) = (q : Int) := ⟨(rd (kids n) (m : Int)).toNat, by omega⟩
    rw [hq] at hk hdn ⊢
    have hlam := laminar hst hd (j + 1) j (by omega) (by omega) q (by omega) (by omega)
    exact ih q (by omega) (by omega) (by omega)
/-! ### every part has a text -/
def cntFrom (y : ByteArray) : Nat → Nat → Nat × Nat
  | 0, _ => (0, 0)
  | d + 1, x => if ((y.data.getD x 0).toNat : Int) = 110 then ((cntFrom y d (x + 1)).1 + 1, (cntFrom y d (x + 1)).2) else ((cntFrom y d (x + 1)).1, (cntFrom y d (x + 1)).2 + 1)
def sumW : List ByteArray → Nat
  | [] => 0
  | w :: ws => w.size + sumW ws
theorem sumW_app : ∀ (a b : List ByteArray), sumW (a ++ b) = sumW a + sumW b
  | [], b => by simp [sumW]
  | w :: a, b => by simp [sumW, sumW_app a b]; omega
theorem join_size : ∀ (ws : List ByteArray), (Lib.join (ws.map (·.data.toList)) ((⟨#[32]⟩ : ByteArray).data.toList)).length ≤ sumW ws + ws.length
  | [] => by simp [Lib.join_nil]
  | w :: ws => by
    have tail : ∀ vs : List ByteArray, (Lib.joinTail [32] (vs.map (·.data.toList))).length = sumW vs + vs.length := by
      intro vs
      induction vs with
      | nil => rfl
      | cons v vs ih =>
        have e : Lib.joinTail [32] ((v :: vs).map (·.data.toList)) = [32] ++ v.data.toList ++ Lib.joinTail [32] (vs.map (·.data.toList)) := by simp [Lib.joinTail]
        rw [e, List.length_append, List.length_append, ih]
        simp [sumW]
        have : v.data.size = v.size := rfl
        omega
    rw [List.map_cons, Lib.join_cons, List.length_append]
    show _ + (Lib.joinTail [32] (ws.map (·.data.toList))).length ≤ _
    rw [tail]
    simp [sumW]
    have : w.data.size = w.size := rfl
    omega
def sumS (S : Int → Nat) : List Int → Nat
  | [] => 0
  | c :: ks => S c + sumS S ks
theorem atS_data (y : ByteArray) (x : Nat) (h : x < y.size) : atS y (x : Int) = some (y.data.getD x 0) := by
  rw [atS_nat y x h]
  have h2 : x < y.data.size := h
  simp only [Array.getD, h2, dite_true]
  rfl
theorem pn_tot_l0 (r : PrF) (l : List Nd) (S : Int → Nat) (y : ByteArray) (hy : y.size ≤ 5) (K : Nat) (d : Nat) : ∀ (k x : Nat) (ns : List ByteArray) (ks : List Int) (ws : List ByteArray), x + d = y.size → d < k → (cntFrom y d x).1 ≤ ns.length → (cntFrom y d x).2 ≤ ks.length →
    (∀ c ∈ ks, ∃ t, r l c = some t ∧ t.size ≤ S c) → (∀ w ∈ ns, w.size ≤ 100) → ws.length ≤ 1 + x →
    ∃ o, impl_printNode.l0 r l y K k ns ks x ws = some o ∧ sumW o ≤ sumW ws + 100 * d + sumS S ks ∧ o.length ≤ 6 := by
  induction d with
  | zero =>
    intro k x ns ks ws hx hk _ _ _ _ hw
    obtain ⟨k, rfl⟩ := succ_of (show 0 < k by omega)
    exact ⟨ws, by rw [impl_printNode.l0, if_neg (by omega)], by omega, by omega⟩
  | succ d ih =>
    intro k x ns ks ws hx hk hn hk2 hr hns hw
    obtain ⟨k, rfl⟩ := succ_of (show 0 < k by omega)
    rw [impl_printNode.l0]
    simp only [jn]
    rw [if_pos (by omega), atS_data y x (by omega), Option.bind_some, w64_of (by omega) (by omega), show ((x : Int) + 1) = ((x + 1 : Nat) : Int) by omega]
    unfold cntFrom at hn hk2
    by_cases hc : ((y.data.getD x 0).toNat : Int) = 110
    · rw [if_pos hc] at hn hk2 ⊢
      simp only at hn hk2
      cases ns with
      | nil => simp at hn
      | cons n ns =>
        rw [show at_ (n :: ns) 0 = some n from rfl, Option.bind_some, gd_pos (by omega), gd_pos (by simp; omega)]
        have e4 : (n :: ns).drop (1 : Int).toNat = ns := rfl
        rw [e4]
        obtain ⟨o, e, h1, h2⟩ := ih k (x + 1) ns ks (ws ++ [n]) (by omega) (by omega) (by simpa using hn) hk2 hr (fun w hw => hns w (by simp [hw])) (by simp; omega)
        refine ⟨o, e, ?_, h2⟩
        have := hns n (by simp)
        rw [sumW_app] at h1
        simp [sumW] at h1
        omega
    · rw [if_neg hc] at hn hk2 ⊢
      simp only at hn hk2
      cases ks with
      | nil => simp at hk2
      | cons c ks =>
        obtain ⟨t, et, ht⟩ := hr c (by simp)
        rw [show at_ (c :: ks) 0 = some c from rfl, Option.bind_some, et, Option.bind_some, gd_pos (by omega), gd_pos (by simp; omega)]
        have e4 : (c :: ks).drop (1 : Int).toNat = ks := rfl
        rw [e4]
        obtain ⟨o, e, h1, h2⟩ := ih k (x + 1) ns ks (ws ++ [t]) (by omega) (by omega) hn (by simpa using hk2) (fun d hd => hr d (by simp [hd])) hns (by simp; omega)
        refine ⟨o, e, ?_, h2⟩
        rw [sumW_app] at h1
        simp [sumW] at h1
        simp only [sumS]
        omega
/-- What the form of a kind is. -/
def formChk (K : Nat) (n : Nd) : Bool := match (impl_KeyOf.f K n).bind fun key => (impl_formOf.f K key).map fun fs => (key, fs.2) with
  | some (key, shape) => decide (key.size ≤ 10) && (decide (shape.size ≤ 5) && (decide ((cntFrom shape shape.size 0).1 ≤ 2) && decide ((cntFrom shape shape.size 0).2 ≤ arityN n.Kind)))
  | none => false
theorem form_ok {K : Nat} {n : Nd} (h : formChk K n = true) : ∃ key f shape, impl_KeyOf.f K n = some key ∧ impl_formOf.f K key = some (f, shape) ∧ key.size ≤ 10 ∧ shape.size ≤ 5 ∧ (cntFrom shape shape.size 0).1 ≤ 2 ∧ (cntFrom shape shape.size 0).2 ≤ arityN n.Kind := by
  unfold formChk at h
  split at h
  · rename_i key shape e
    simp only [Option.bind_eq_some_iff, Option.map_eq_some_iff, Prod.exists, Prod.mk.injEq] at e
    obtain ⟨key', e1, f, shape', e2, rfl, rfl⟩ := e
    simp only [Bool.and_eq_true, decide_eq_true_eq] at h
    exact ⟨_, f, _, e1, e2, h.1, h.2.1, h.2.2.1, h.2.2.2⟩
  · cases h
theorem fc3 (k : Nat) (a b c : Int) (s t : ByteArray) (n : Int) : formChk (k + 100) ⟨3, a, b, c, n, s, t⟩ = true := by kernel_rfl
theorem fc4 (k : Nat) (a b c : Int) (s t : ByteArray) (n : Int) : formChk (k + 100) ⟨4, a, b, c, n, s, t⟩ = true := by kernel_rfl
theorem fc5 (k : Nat) (a b c : Int) (s t : ByteArray) (n : Int) : formChk (k + 100) ⟨5, a, b, c, n, s, t⟩ = true := by kernel_rfl
theorem fc6 (k : Nat) (a b c : Int) (s t : ByteArray) (n : Int) : formChk (k + 100) ⟨6, a, b, c, n, s, t⟩ = true := by kernel_rfl
theorem fc7 (k : Nat) (a b c : Int) (s t : ByteArray) (n : Int) : formChk (k + 100) ⟨7, a, b, c, n, s, t⟩ = true := by kernel_rfl
theorem fc80 (k : Nat) (a b c : Int) (s t : ByteArray) : formChk (k + 100) ⟨8, a, b, c, 0, s, t⟩ = true := by kernel_rfl
theorem fc81 (k : Nat) (a b c : Int) (s t : ByteArray) : formChk (k + 100) ⟨8, a, b, c, 1, s, t⟩ = true := by kernel_rfl
theorem fc82 (k : Nat) (a b c : Int) (s t : ByteArray) : formChk (k + 100) ⟨8, a, b, c, 2, s, t⟩ = true := by kernel_rfl
theorem fc83 (k : Nat) (a b c : Int) (s t : ByteArray) : formChk (k + 100) ⟨8, a, b, c, 3, s, t⟩ = true := by kernel_rfl
theorem fc9 (k : Nat) (a b c : Int) (s t : ByteArray) (n : Int) : formChk (k + 100) ⟨9, a, b, c, n, s, t⟩ = true := by kernel_rfl
theorem fc10 (k : Nat) (a b c : Int) (s t : ByteArray) (n : Int) : formChk (k + 100) ⟨10, a, b, c, n, s, t⟩ = true := by kernel_rfl
theorem fc11 (k : Nat) (a b c : Int) (s t : ByteArray) (n : Int) : formChk (k + 100) ⟨11, a, b, c, n, s, t⟩ = true := by kernel_rfl
theorem fc13 (k : Nat) (a b c : Int) (s t : ByteArray) (n : Int) : formChk (k + 100) ⟨13, a, b, c, n, s, t⟩ = true := by kernel_rfl
theorem fc14 (k : Nat) (a b c : Int) (s t : ByteArray) (n : Int) : formChk (k + 100) ⟨14, a, b, c, n, s, t⟩ = true := by kernel_rfl
theorem fc15 (k : Nat) (a b c : Int) (s t : ByteArray) (n : Int) : formChk (k + 100) ⟨15, a, b, c, n, s, t⟩ = true := by kernel_rfl
theorem fc16 (k : Nat) (a b c : Int) (s t : ByteArray) (n : Int) : formChk (k + 100) ⟨16, a, b, c, n, s, t⟩ = true := by kernel_rfl
theorem fc17 (k : Nat) (a b c : Int) (s t : ByteArray) (n : Int) : formChk (k + 100) ⟨17, a, b, c, n, s, t⟩ = true := by kernel_rfl
theorem fc18 (k : Nat) (a b c : Int) (s t : ByteArray) (n : Int) : formChk (k + 100) ⟨18, a, b, c, n, s, t⟩ = true := by kernel_rfl
theorem fc19 (k : Nat) (a b c : Int) (s t : ByteArray) (n : Int) : formChk (k + 100) ⟨19, a, b, c, n, s, t⟩ = true := by kernel_rfl
theorem form_all {n : Nd} (hf : fieldsB n = true) (h1 : n.Kind ≠ 1) (h2 : n.Kind ≠ 2) (h3 : n.Kind ≠ 12) {K : Nat} (hK : 100 ≤ K) : formChk K n = true := by
  obtain ⟨k, rfl⟩ : ∃ k, K = k + 100 := ⟨K - 100, by omega⟩
  unfold fieldsB inB at hf
  simp only [Bool.and_eq_true, decide_eq_true_eq] at hf
  obtain ⟨⟨g1, g2⟩, -, -, -, hr⟩ := hf
  obtain ⟨kd, a, b, c, v, s, t⟩ := n
  simp only at g1 g2 h1 h2 h3
  have hc : kd = 3 ∨ kd = 4 ∨ kd = 5 ∨ kd = 6 ∨ kd = 7 ∨ kd = 8 ∨ kd = 9 ∨ kd = 10 ∨ kd = 11 ∨ kd = 13 ∨ kd = 14 ∨ kd = 15 ∨ kd = 16 ∨ kd = 17 ∨ kd = 18 ∨ kd = 19 := by omega
  rcases hc with rfl | rfl | rfl | rfl | rfl | rfl | rfl | rfl | rfl | rfl | rfl | rfl | rfl | rfl | rfl | rfl
  · exact fc3 ..
  · exact fc4 ..
  · exact fc5 ..
  · exact fc6 ..
  · exact fc7 ..
  · have hv : v = 0 ∨ v = 1 ∨ v = 2 ∨ v = 3 := by
      unfold restB inB at hr
      simp at hr
      omega
    rcases hv with rfl | rfl | rfl | rfl
    · exact fc80 ..
    · exact fc81 ..
    · exact fc82 ..
    · exact fc83 ..
  · exact fc9 ..
  · exact fc10 ..
  · exact fc11 ..
  · exact fc13 ..
  · exact fc14 ..
  · exact fc15 ..
  · exact fc16 ..
  · exact fc17 ..
  · exact fc18 ..
  · exact fc19 ..
def szP (l : List Nd) (c : Int) : Nat := (1000 * (c + 1 - rd (startsL l) c)).toNat
theorem sumS_take {t : List Int} {N : Nat} (ht : StN t N) (S : Int → Nat) (hS : ∀ c : Int, (S c : Int) = 1000 * (c + 1 - rd t c) ∨ c + 1 - rd t c < 0) (ks : List Int) (j : Nat) : ∀ (a b : Int), 0 ≤ a → a ≤ N → j ≤ ks.length → down t ks j a = some b → (sumS S (ks.take j) : Int) = 1000 * (a - b) := by
  have app : ∀ (p q : List Int), sumS S (p ++ q) = sumS S p + sumS S q := by
    intro p
    induction p with
    | nil => intro q; simp [sumS]
    | cons c p ih => intro q; simp [sumS, ih]; omega
  induction j with
  | zero => intro a b _ _ _ h; rw [down_z] at h; cases h; simp [sumS]
  | succ j ih =>
    intro a b h0 h1 hj h
    rw [down_s] at h
    split at h
    · rename_i hc
      have hle : rd t (a - 1) ≤ a - 1 ∧ 0 ≤ rd t (a - 1) := by
        have := ht.2 (a - 1).toNat (by omega)
        rw [← rd_nat, show (((a - 1).toNat : Nat) : Int) = a - 1 by omega] at this
        exact ⟨this.2, this.1⟩
      have := ih _ _ hle.2 (by omega) (by omega) h
      rw [List.take_add_one, app]
      have e : ks[j]?.toList = [a - 1] := by
        rw [List.getElem?_eq_getElem (by omega)]
        have : ks[j]'(by omega) = rd ks (j : Int) := by simp [rd, List.getD, show j < ks.length by omega]
        rw [this, hc.1]; rfl
      rw [e]
      have := hS (a - 1)
      simp only [sumS]
      omega
    · cases h
theorem size_lit (a : Array UInt8) : (⟨a⟩ : ByteArray).size = a.size := rfl
theorem pn_tot {l : List Nd} (h : nodesOkB l = true) (hS : ∀ n ∈ l, NdS n) (K : Nat) (hK : 200 ≤ K) : ∀ (k j : Nat), j < k → j < l.length → ∃ t, impl_printNode.r K k l (j : Int) = some t ∧ t.size ≤ szP l (j : Int) := by
  intro k
  induction k with
  | zero => intro j h; omega
  | succ k ih =>
    intro j hj hjl
    have hlen := ok_len h
    obtain ⟨_, hst, hd⟩ := startsL_ok h
    have hjs := st_le h j hjl
    have h1000 : 1000 ≤ szP l (j : Int) := by unfold szP; omega
    rw [impl_printNode.r]
    unfold impl_printNode.b
    rw [at_nd l j hjl, Option.bind_some]
    have hf := ok_fields h j hjl
    have hsz : NdS (nd l j) := by rw [nd_get l j hjl]; exact hS _ (List.getElem_mem hjl)
    have hdj := hd j hjl
    have hkid : ∀ m, m < arityN (nd l j).Kind → ∃ q : Nat, rd (kids (nd l j)) (m : Int) = (q : Int) ∧ q < j := fun m hm => by
      have := ok_kids h j hjl m hm
      exact ⟨(rd (kids (nd l j)) (m : Int)).toNat, by omega, by omega⟩
    generalize hn : nd l j = n at hf hsz hdj hkid
    by_cases k2 : n.Kind = 2
    · rw [if_pos k2]
      have hr : 0 ≤ n.N ∧ n.N ≤ 65535 := by
        unfold fieldsB at hf
        simp only [Bool.and_eq_true] at hf
        have := hf.2.2.2.2
        unfold restB inB at this
        rw [if_pos k2] at this
        simpa using this
      unfold impl_Dec.f
      rw [if_pos ⟨by omega, by omega⟩, Option.bind_some]
      refine ⟨_, rfl, ?_⟩
      have := Lib.itoa_length_le n.N (by omega) (by omega)
      rw [size_lit]
      simp
      omega
    rw [if_neg k2]
    by_cases k1 : n.Kind = 1
    · rw [if_pos k1]
      exact ⟨_, rfl, by have := hsz.1; omega⟩
    rw [if_neg k1]
    by_cases k12 : n.Kind = 12
    · rw [if_pos k12]
      exact ⟨_, rfl, by rw [size_lit]; simp; omega⟩
    rw [if_neg k12]
    obtain ⟨key, f, shape, e1, e2, b1, b2, b3, b4⟩ := form_ok (form_all hf k1 k2 k12 (K := K) (by omega))
    rw [e1, Option.bind_some, e2, Option.bind_some]
    simp only [jn]
    rw [impl_kids, Option.bind_some]
    obtain ⟨o, eo, c1, c2⟩ := pn_tot_l0 (impl_printNode.r K k) l (szP l) shape b2 K shape.size K 0 [n.Name, n.Other] (kids n) [key] (by omega) (by omega) (by simpa using b3) (by rw [kids_len]; exact b4) (fun c hc => by
      obtain ⟨m, hm, rfl⟩ := List.getElem_of_mem hc
      rw [kids_len] at hm
      have em : (kids n)[m]'(by rw [kids_len]; exact hm) = rd (kids n) (m : Int) := by simp [rd, List.getD, kids_len, hm]
      rw [em]
      obtain ⟨q, hq, hqj⟩ := hkid m hm
      rw [hq]
      exact ih q (by omega) (by omega)) (fun w hw => by
      simp at hw
      rcases hw with rfl | rfl
      · exact hsz.1
      · exact hsz.2) (by simp)
    have hsum : (sumS (szP l) (kids n) : Int) = 1000 * ((j : Int) - rd (startsL l) (j : Int)) := by
      have := sumS_take hst (szP l) (fun c => by unfold szP; omega) (kids n) (arityN n.Kind) _ _ (by omega) (by omega) (by rw [kids_len]; exact Nat.le_refl _) hdj
      rwa [← kids_len, List.take_length] at this
    rw [show ((0 : Nat) : Int) = 0 from rfl] at eo
    rw [eo, Option.bind_some]
    have hj2 := join_size o
    have hw : sumW [key] = key.size := by simp [sumW]
    have hszp : (szP l (j : Int) : Int) = 1000 * ((j : Int) + 1 - rd (startsL l) (j : Int)) := by unfold szP; omega
    unfold strings_Join.f
    rw [if_pos ⟨by omega, by omega⟩, Option.bind_some]
    have hsj : (⟨(Lib.join (o.map (·.data.toList)) ((⟨#[32]⟩ : ByteArray).data.toList)).toArray⟩ : ByteArray).size ≤ sumW o + o.length := by rw [size_lit, List.size_toArray]; exact hj2
    generalize (⟨(Lib.join (o.map (·.data.toList)) ((⟨#[32]⟩ : ByteArray).data.toList)).toArray⟩ : ByteArray) = T at hsj
    have s1 : (⟨#[40]⟩ : ByteArray).size = 1 := rfl
    have s2 : (⟨#[41]⟩ : ByteArray).size = 1 := rfl
    have s3 : ((⟨#[40]⟩ : ByteArray) ++ T).size = 1 + T.size := by rw [ByteArray.size_append, s1]
    rw [gd_pos (by rw [s1]; omega), gd_pos (by rw [s3, s2]; omega)]
    refine ⟨_, rfl, ?_⟩
    rw [ByteArray.size_append, s3, s2]
    omega
end Go.Proofs.YtfkanjgfjejgiaaDoorE
