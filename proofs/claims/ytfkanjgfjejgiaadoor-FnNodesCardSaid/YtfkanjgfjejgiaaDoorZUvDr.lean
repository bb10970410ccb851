/- What the reference draws: each draw comes to an end, with nodes that are few and small. -/
import Derived.Test.YtfkanjgfjejgiaaDoorZUvFlat
set_option linter.unusedSimpArgs false
set_option linter.unusedVariables false
namespace Go.Proofs.YtfkanjgfjejgiaaDoorE
open Go.Ev Go.RowKit
set_option linter.unusedVariables false
/-- It answers, and so. -/
def Tot {α : Type} (o : Option α) (P : α → Prop) : Prop := ∃ a, o = some a ∧ P a
theorem Tot.ret {α : Type} {a : α} {P : α → Prop} (h : P a) : Tot (some a) P := ⟨a, rfl, h⟩
theorem Tot.bind {α β : Type} {o : Option α} {f : α → Option β} {Q : α → Prop} {P : β → Prop} (h : Tot o Q) (k : ∀ a, Q a → Tot (f a) P) : Tot (o.bind f) P := by
  obtain ⟨a, rfl, q⟩ := h; exact k a q
theorem Tot.gd {α : Type} {c : Prop} [Decidable c] {o : Option α} {P : α → Prop} (h : c) (k : Tot o P) : Tot (Go.Ev.gd c o) P := by rw [gd_pos h]; exact k
theorem Tot.ite {α : Type} {c : Prop} [Decidable c] {a b : Option α} {P : α → Prop} (h : c → Tot a P) (k : ¬ c → Tot b P) : Tot (if c then a else b) P := by
  by_cases q : c
  · rw [if_pos q]; exact h q
  · rw [if_neg q]; exact k q
theorem Tot.bind2 {α β γ : Type} {o : Option (α × β)} {f : α × β → Option γ} {Q : α × β → Prop} {P : γ → Prop} (h : Tot o Q) (k : ∀ a b, Q (a, b) → Tot (f (a, b)) P) : Tot (o.bind f) P := by
  obtain ⟨⟨a, b⟩, rfl, q⟩ := h; exact k a b q
theorem Tot.jn {α ρ : Type} {rest : α → Option ρ} {tree : (α → Option ρ) → Option ρ} {P : ρ → Prop} (Q : α → Prop) (h : ∀ x, Q x → Tot (rest x) P) (k : ∀ j : α → Option ρ, (∀ x, Q x → Tot (j x) P) → Tot (tree j) P) : Tot (Go.Ev.jn rest tree) P := k rest h
theorem Tot.mono {α : Type} {o : Option α} {P Q : α → Prop} (h : Tot o P) (k : ∀ a, P a → Q a) : Tot o Q := by obtain ⟨a, e, q⟩ := h; exact ⟨a, e, k a q⟩
abbrev Cur := spec_l1Cur
def CurOk (c : Cur) : Prop := 0 ≤ c.i ∧ c.i ≤ c.b.length ∧ c.b.length ≤ 1000000000
theorem low8 (x : Int) : 0 ≤ (((BitVec.ofInt 64 x) &&& (BitVec.ofInt 64 255)).toNat : Int) ∧ (((BitVec.ofInt 64 x) &&& (BitVec.ofInt 64 255)).toNat : Int) ≤ 255 := by
  refine ⟨by omega, ?_⟩
  rw [BitVec.toNat_and]
  have h := Nat.and_le_right (n := (BitVec.ofInt 64 x).toNat) (m := (BitVec.ofInt 64 255).toNat)
  have e : (BitVec.ofInt 64 255).toNat = 255 := by decide
  omega
theorem t_byte (K : Nat) {c : Cur} (hc : CurOk c) : Tot (spec_l1Byte.f K c) fun r => CurOk r.2 ∧ 0 ≤ r.1 ∧ r.1 ≤ 255 := by
  obtain ⟨h0, h1, h2⟩ := hc
  unfold spec_l1Byte.f
  simp only [jn]
  refine Tot.ite (fun h => ?_) (fun h => ?_)
  · obtain ⟨i, hi⟩ : ∃ i : Nat, c.i = (i : Int) := ⟨c.i.toNat, by omega⟩
    rw [hi, at_in c.b i (by omega), Option.bind_some]
    refine Tot.ret ⟨⟨?_, ?_, h2⟩, ?_⟩
    · show 0 ≤ w64 ((i : Int) + 1); rw [w64_of (by omega) (by omega)]; omega
    · show w64 ((i : Int) + 1) ≤ _; rw [w64_of (by omega) (by omega)]; show (i : Int) + 1 ≤ (c.b.length : Int); omega
    · show 0 ≤ w64 _ ∧ w64 _ ≤ 255
      have := low8 (w64 ((w64 (((BitVec.ofInt 64 (w64 (((BitVec.ofInt 64 (Int.fdiv (w64 ((w64 (c.h_ * 6364136223846793005)) + 1442695040888963407)) 8589934592)) ^^^ (BitVec.ofInt 64 (Int.fdiv (w64 ((w64 (c.h_ * 6364136223846793005)) + 1442695040888963407)) 35184372088832))).toNat : Int))) &&& (BitVec.ofInt 64 255)).toNat : Int)) + (w64 c.b[i])))
      rw [w64_of (by omega) (by omega)]
      exact this
  · refine Tot.ret ⟨⟨h0, h1, h2⟩, ?_⟩
    show 0 ≤ w64 _ ∧ w64 _ ≤ 255
    have := low8 (w64 (((BitVec.ofInt 64 (Int.fdiv (w64 ((w64 (c.h_ * 6364136223846793005)) + 1442695040888963407)) 8589934592)) ^^^ (BitVec.ofInt 64 (Int.fdiv (w64 ((w64 (c.h_ * 6364136223846793005)) + 1442695040888963407)) 35184372088832))).toNat : Int))
    rw [w64_of (by omega) (by omega)]
    exact this
theorem t_below (K : Nat) {c : Cur} (n : Int) (hc : CurOk c) : Tot (spec_l1Below.f K c n) fun r => CurOk r.2 ∧ 0 ≤ r.1 ∧ (0 < n → r.1 < n) := by
  unfold spec_l1Below.f
  refine Tot.ite (fun h => Tot.ret ⟨hc, by show (0 : Int) ≤ 0; omega, fun q => by omega⟩) fun h => Tot.ite (fun h2 => ?_) fun h2 => ?_
  · refine Tot.bind (t_byte K hc) ?_
    rintro ⟨y, c1⟩ ⟨k1, k2, k3⟩
    refine Tot.gd (by omega) (Tot.ret ⟨k1, ?_, fun _ => ?_⟩)
    · exact Int.tmod_nonneg _ k2
    · exact Int.tmod_lt_of_pos _ (by omega)
  · refine Tot.bind (t_byte K hc) ?_
    rintro ⟨y1, c1⟩ ⟨k1, k2, k3⟩
    refine Tot.bind (t_byte K k1) ?_
    rintro ⟨y2, c2⟩ ⟨l1, l2, l3⟩
    refine Tot.bind (t_byte K l1) ?_
    rintro ⟨y3, c3⟩ ⟨m1, m2, m3⟩
    refine Tot.bind (t_byte K m1) ?_
    rintro ⟨y4, c4⟩ ⟨n1, n2, n3⟩
    simp only at k2 k3 l2 l3 m2 m3 n2 n3
    refine Tot.gd (by omega) (Tot.ret ⟨n1, ?_, fun _ => ?_⟩)
    · simp only
      rw [w64_of (x := y1 * 16777216) (by omega) (by omega), w64_of (x := y2 * 65536) (by omega) (by omega), w64_of (x := y3 * 256) (by omega) (by omega), w64_of (x := y1 * 16777216 + y2 * 65536) (by omega) (by omega), w64_of (x := y1 * 16777216 + y2 * 65536 + y3 * 256) (by omega) (by omega), w64_of (by omega) (by omega)]
      exact Int.tmod_nonneg _ (by omega)
    · exact Int.tmod_lt_of_pos _ (by omega)
theorem t_once (K : Nat) {c : Cur} (n : Int) (hc : CurOk c) : Tot (spec_l1Once.f K c n) fun r => CurOk r.2 := by
  unfold spec_l1Once.f
  refine Tot.bind (t_below K n hc) ?_
  rintro ⟨y, c1⟩ ⟨k1, _, _⟩
  exact Tot.ret k1
theorem at_mem {α : Type} {l : List α} {i : Int} (h0 : 0 ≤ i) (h1 : i < l.length) : Tot (at_ l i) fun x => x ∈ l := by
  obtain ⟨n, rfl⟩ : ∃ n : Nat, i = (n : Int) := ⟨i.toNat, by omega⟩
  rw [at_in l n (by omega)]
  exact Tot.ret (List.getElem_mem _)
theorem t_pick (K : Nat) {c : Cur} (l : List ByteArray) (hl : 0 < l.length) (hc : CurOk c) : Tot (spec_l1Pick.f K c l) fun r => CurOk r.2 ∧ r.1 ∈ l := by
  unfold spec_l1Pick.f
  refine Tot.bind (t_below K _ hc) ?_
  rintro ⟨y, c1⟩ ⟨k1, k2, k3⟩
  refine Tot.bind (at_mem k2 (k3 (by omega))) ?_
  intro x hx
  exact Tot.ret ⟨k1, hx⟩
theorem t_pickInt (K : Nat) {c : Cur} (l : List Int) (hl : 0 < l.length) (hc : CurOk c) : Tot (spec_l1PickInt.f K c l) fun r => CurOk r.2 ∧ r.1 ∈ l := by
  unfold spec_l1PickInt.f
  refine Tot.bind (t_below K _ hc) ?_
  rintro ⟨y, c1⟩ ⟨k1, k2, k3⟩
  refine Tot.bind (at_mem k2 (k3 (by omega))) ?_
  intro x hx
  exact Tot.ret ⟨k1, hx⟩

/-! ### Nodes that are small -/
def NdS (n : Nd) : Prop := n.Name.size ≤ 100 ∧ n.Other.size ≤ 100
def Few (m : Nat) (l : List Nd) : Prop := 1 ≤ l.length ∧ l.length ≤ m ∧ ∀ n ∈ l, NdS n
theorem few_up {m k : Nat} {l : List Nd} (h : Few m l) (q : m ≤ k) : Few k l := ⟨h.1, Nat.le_trans h.2.1 q, h.2.2⟩
theorem shift_S {b : Int} {n : Nd} (h : NdS n) : NdS (shiftN b n) := h
theorem setKid_S {j : Nat} {n : Nd} {v : Int} (h : NdS n) : NdS (setKid j n v) := by
  unfold setKid; split
  · exact h
  · split <;> exact h
theorem glue_S : ∀ (ps : List (List Nd)) (j : Nat) (n : Nd) (o : List Nd), NdS n → (∀ x ∈ o, NdS x) → (∀ p ∈ ps, ∀ x ∈ p, NdS x) → NdS (glue j n o ps).1 ∧ ∀ x ∈ (glue j n o ps).2, NdS x
  | [], j, n, o, h, ho, _ => ⟨h, ho⟩
  | p :: ps, j, n, o, h, ho, hp => by
    rw [glue]
    refine glue_S ps _ _ _ (setKid_S h) (fun x hx => ?_) fun q hq => hp q (by simp [hq])
    rcases List.mem_append.1 hx with q | q
    · exact ho x q
    · obtain ⟨y, hy, rfl⟩ := List.mem_map.1 q
      exact shift_S (hp p (by simp) y hy)
theorem lens_le {m : Nat} : ∀ {ps : List (List Nd)}, (∀ p ∈ ps, Few m p) → lens ps ≤ ps.length * m
  | [], _ => by simp [lens]
  | p :: ps, h => by
    have h1 := (h p (by simp)).2.1
    have h2 := lens_le fun q hq => h q (List.mem_cons_of_mem _ hq)
    simp only [lens, List.length_cons]
    rw [Nat.add_mul]
    omega
theorem t_make {K m : Nat} (hK : 1000 ≤ K) {n : Nd} {ps : List (List Nd)} (hn : NdS n) (hp : ∀ p ∈ ps, Few m p) (h3 : ps.length ≤ 3) (hm : m ≤ 300) : Tot (spec_l3Make.f K n ps) (Few (3 * m + 1)) := by
  have hl := lens_le hp
  have h9 : ps.length * m ≤ 3 * m := Nat.mul_le_mul_right _ h3
  rw [l3Make_f n ps K hK h3 (by omega)]
  obtain ⟨g1, g2⟩ := glue_S ps 0 n [] hn (by simp) fun p hq => (hp p hq).2.2
  refine Tot.ret ⟨?_, ?_, fun x hx => ?_⟩
  · rw [make_len]; omega
  · rw [make_len]; omega
  · unfold make at hx
    rcases List.mem_append.1 hx with q | q
    · exact g2 x q
    · rw [List.mem_singleton] at q; subst q; exact g1
end Go.Proofs.YtfkanjgfjejgiaaDoorE
