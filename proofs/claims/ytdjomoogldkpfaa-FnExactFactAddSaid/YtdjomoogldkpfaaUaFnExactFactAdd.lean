/- The law FnExactFactAdd without memory: what its functions come to, and that it answers true for all values of its parameters. -/
import Derived.Test.YtdjomoogldkpfaaVaa0
import Derived.Deep.Slices
import Derived.ChangeArms
import Derived.WideShapes
import Derived.Test.YtdjomoogldkpfaaQa4
import Derived.KernelRfl
import Derived.Test.YtdjomoogldkpfaaQa0
import Derived.Test.YtdjomoogldkpfaaQa1
import Derived.Test.YtdjomoogldkpfaaQa3
import Derived.Test.YtdjomoogldkpfaaQa2
section
namespace Go.Proofs.Ytdjomoogldkpfaa.Open
open Go.RowKit Go.Deep Go.WideShapes Go.Proofs.YtdjomoogldkpfaaW.PrintWords
universe u v
structure Opens {α : Type} (P : Program) (t : TypeId) (d : Kd α) (ok : α → Prop) : Prop where
  mk ::
  one : P.cellsOf t = d.sz
  two : ∀ {H : Type} {enc : TypeId × Value → H} {w : World} {base : Nat} {spare : Nat → Bool} {held : Bool} {fuel : Nat} {cs : List Value} {x : DataW H × List MemPlace},
    DataW.trod enc P w base spare held fuel t cs = some x → ∃ a, d.K w a cs ∧ ok a
theorem opens_int {P : Program} {t : TypeId} {k : IntKind} (hu : P.underlying t = some (.int k)) (hc : P.cellsOf t = 1) : Opens P t (Kd.int k) (fun a => (Lit.int k a).wf = true) :=
  ⟨hc, fun h => by
    obtain ⟨n, rfl, _, hw⟩ := DataW.trod_int hu h
    exact ⟨n, rfl, hw⟩⟩
theorem opens_bool {P : Program} {t : TypeId} (hu : P.underlying t = some .bool) (hc : P.cellsOf t = 1) : Opens P t Kd.bool (fun _ => True) :=
  ⟨hc, fun h => by
    obtain ⟨n, rfl, _⟩ := DataW.trod_bool hu h
    exact ⟨n, rfl, trivial⟩⟩
theorem opens_string {P : Program} {t : TypeId} (hu : P.underlying t = some .string) (hc : P.cellsOf t = 1) : Opens P t Kd.string (fun s => s.size ≤ maxLen) :=
  ⟨hc, fun h => by
    obtain ⟨n, rfl, _, hs⟩ := DataW.trod_string hu h
    exact ⟨n, rfl, hs⟩⟩
theorem opens_slice {α : Type} {P : Program} {t e : TypeId} {d : Kd α} {ok : α → Prop} (hu : P.underlying t = some (.slice e)) (hc : P.cellsOf t = 1) (he : Opens P e d ok) :
    Opens P t (Kd.slice e d) (fun l => l.length ≤ maxLen ∧ ∀ x ∈ l, ok x) :=
  ⟨hc, fun {H enc w base spare held fuel cs x} h => by
    rcases open_slice hu h with ⟨rfl, _⟩ | ⟨a, len, cap, m, n, D, Pl, rfl, hb, hl, hm, hmm, _, hi⟩
    · exact ⟨[], ⟨none, 0, rfl, Nat.le_refl _, Kd.C_nil d w⟩, Nat.zero_le _, fun y hy => by simp at hy⟩
    · have hle : len ≤ m := by
        rw [hmm]
        split
        · exact hl
        · exact Nat.le_refl _
      have key : ∀ j, j ≤ len → ∃ xs : List α, xs.length = j ∧ (∀ y ∈ xs, ok y) ∧ ∀ i p, xs[i]? = some p → ∃ c, c.length = d.sz ∧ d.K w p c ∧ ∀ q u, c[q]? = some u → w.cell? (a.add (i * d.sz + q)) = some u := by
        intro j
        induction j with
        | zero => exact fun _ => ⟨[], rfl, fun y hy => by simp at hy, fun i p hp => by simp at hp⟩
        | succ j ih =>
          intro hj
          obtain ⟨xs, hx, ho, hg⟩ := ih (by omega)
          obtain ⟨cs', hcs, ht⟩ := hi j (by omega)
          obtain ⟨y, hK, hy⟩ := he.two ht
          rw [he.one] at hcs
          obtain ⟨_, hcl, hat⟩ := World.cells?_some hcs
          refine ⟨xs ++ [y], by simp [hx], fun z hz => ?_, fun i p hp => ?_⟩
          · rcases List.mem_append.1 hz with hz | hz
            · exact ho z hz
            · rw [List.mem_singleton.1 hz]
              exact hy
          · rcases Nat.lt_or_ge i xs.length with hi' | hi'
            · rw [List.getElem?_append_left hi'] at hp
              exact hg i p hp
            · rw [List.getElem?_append_right hi'] at hp
              have hi0 : i - xs.length = 0 := by
                rcases Nat.eq_zero_or_pos (i - xs.length) with h0 | h0
                · exact h0
                · rw [List.getElem?_eq_none (by simp; omega)] at hp
                  cases hp
              rw [hi0] at hp
              have hp' : y = p := by simpa using hp
              subst hp'
              have hij : i = j := by omega
              subst hij
              refine ⟨cs', hcl, hK, fun q u hq => ?_⟩
              have hql : q < d.sz := by
                rcases Nat.lt_or_ge q cs'.length with h0 | h0
                · omega
                · rw [List.getElem?_eq_none h0] at hq
                  cases hq
              have := hat q hql
              rw [hq] at this
              rw [← Go.Deep.add_add]
              exact this
      obtain ⟨xs, hx, ho, hg⟩ := key len (Nat.le_refl _)
      have hlm : len ≤ 9223372036854775807 := by
        have : cap ≤ maxLen := hm
        simp only [maxLen] at this
        omega
      refine ⟨xs, ⟨some a, cap, by rw [hx], by omega, ⟨rfl, by omega, fun _ => ⟨a, rfl, hg⟩⟩⟩, by omega, ho⟩⟩
structure OpensAt {α : Type} (P : Program) (fs : List Field) (off : Nat) (d : Kd α) (ok : α → Prop) : Prop where
  mk ::
  at_ : ∀ {H : Type} {enc : TypeId × Value → H} {w : World} {base : Nat} {spare : Nat → Bool} {held : Bool} {n : Nat} {cs : List Value}, cs.length = off + d.sz →
    (∀ f ∈ fs, ∃ x, DataW.trod enc P w base spare held n f.type ((cs.drop f.offset).take (P.cellsOf f.type)) = some x) → ∃ a, d.K w a (cs.drop off) ∧ ok a
theorem opensAt_one {α : Type} {P : Program} {f : Field} {off : Nat} {d : Kd α} {ok : α → Prop} (ho : f.offset = off) (he : Opens P f.type d ok) : OpensAt P [f] off d ok := by
  refine ⟨fun {H enc w base spare held n cs} hl hf => ?_⟩
  obtain ⟨x, hx⟩ := hf f (List.mem_singleton.2 rfl)
  rw [ho, he.one, List.take_of_length_le (by rw [List.length_drop]; omega)] at hx
  exact he.two hx
theorem opensAt_cons {α β : Type} {P : Program} {f : Field} {fs : List Field} {off : Nat} {d : Kd α} {d' : Kd β} {ok : α → Prop} {ok' : β → Prop} (ho : f.offset = off) (he : Opens P f.type d ok) (hr : OpensAt P fs (off + d.sz) d' ok') :
    OpensAt P (f :: fs) off (Kd.pair d d') (fun p => ok p.1 ∧ ok' p.2) := by
  refine ⟨fun {H enc w base spare held n cs} hl hf => ?_⟩
  have hl' : cs.length = off + (d.sz + d'.sz) := hl
  obtain ⟨x, hx⟩ := hf f List.mem_cons_self
  rw [ho, he.one] at hx
  obtain ⟨a, ha, hoa⟩ := he.two hx
  obtain ⟨b, hb, hob⟩ := hr.at_ (cs := cs) (by omega) (fun g hg => hf g (List.mem_cons_of_mem _ hg))
  refine ⟨(a, b), ⟨_, _, ?_, ha, hb⟩, hoa, hob⟩
  have e : cs.drop (off + d.sz) = (cs.drop off).drop d.sz := by rw [List.drop_drop]
  rw [e, List.take_append_drop]
theorem opens_struct {α β : Type} {P : Program} {t : TypeId} {fs : Array Field} {d : Kd α} {ok : α → Prop} {f : β → α} (g : α → β) (hu : P.underlying t = some (.struct fs)) (hc : P.cellsOf t = d.sz) (hg : ∀ a, f (g a) = a) (h : OpensAt P fs.toList 0 d ok) :
    Opens P t (Kd.iso d f) (fun b => ok (f b)) :=
  ⟨hc, fun {H enc w base spare held fuel cs x} ht => by
    obtain ⟨xs, n, _, _, hl, hxl, hf⟩ := DataW.trod_struct hu ht
    obtain ⟨a, ha, hoa⟩ := h.at_ (enc := enc) (w := w) (base := base) (spare := spare) (held := held) (n := n) (cs := cs) (by rw [hl, hc]; omega) (fun q hq => by
      obtain ⟨i, hi, he⟩ := List.mem_iff_getElem.1 hq
      have hi' : fs[i]? = some q := by
        rw [← he]
        simp
      have hh := hf i q hi'
      have : i < xs.length := by
        rw [hxl]
        simpa using hi
      exact ⟨_, hh.trans (List.getElem?_eq_getElem this)⟩)
    refine ⟨g a, ?_, ?_⟩
    · show d.K w (f (g a)) cs
      rw [hg]
      simpa using ha
    · show ok (f (g a))
      rw [hg]
      exact hoa⟩
section args
variable {α : Type} {P : Program} {t : TypeId} {d : Kd α} {ok : α → Prop} {okl : List α → Prop} {H : Type} {enc : TypeId × Value → H} {w : World} {base : Nat} {spare : Nat → Bool} {held : Bool} {v : Value} {dt : DataW H} {p : List MemPlace} {r : Reach} {b0 : Nat}
theorem arg_slice {e : TypeId} (hu : P.underlying t = some (.slice e)) (ho : Opens P t (Kd.slice e d) okl) (hv : Value.okWide P w r b0 t v) (h : DataW.Trod enc P w base spare held t v dt p) :
    ∃ (A : Option Addr) (c : Nat) (l : List α), v = .slice A l.length c ∧ l.length ≤ c ∧ d.C w A l.length l ∧ okl l := by
  obtain ⟨a, len, cap, rfl⟩ := okWide_slice hu hv
  obtain ⟨fuel, hf⟩ := h
  obtain ⟨l, ⟨A, c, he, hl, hC⟩, hok⟩ := ho.two hf
  have he' : [Value.slice a len cap] = [.slice A l.length c] := he
  exact ⟨A, c, l, (List.cons.inj he').1, hl, hC, hok⟩
theorem arg_struct {fs : Array Field} (hu : P.underlying t = some (.struct fs)) (ho : Opens P t d ok) (hv : Value.okWide P w r b0 t v) (h : DataW.Trod enc P w base spare held t v dt p) :
    ∃ (cs : List Value) (a : α), v = .agg cs.toArray ∧ d.K w a cs ∧ ok a := by
  obtain ⟨cs, rfl, _⟩ := okWide_struct hu hv
  obtain ⟨fuel, hf⟩ := h
  obtain ⟨a, hK, hok⟩ := ho.two hf
  exact ⟨cs.toList, a, rfl, hK, hok⟩
end args
end Go.Proofs.Ytdjomoogldkpfaa.Open
end
section
namespace Go.Proofs.Ytdjomoogldkpfaa.StmtFnExactFactAdd
open Go.RowKit Go.Proofs.Ytdjomoogldkpfaa.PAll Go.Proofs.YtdjomoogldkpfaaW.PrintWords Go.Proofs.YtdjomoogldkpfaaW.PrintLast Go.Proofs.Ytdjomoogldkpfaa.Open
def ok37 (x : S37) : Prop := (Lit.int .i64 x.f0).wf = true ∧ (Lit.int .i64 x.f1).wf = true ∧ (Lit.int .i64 x.f2).wf = true
theorem opens37 : Opens Try.prog 37 k37 ok37 := opens_struct (d := (Kd.pair (Kd.int .i64) (Kd.pair (Kd.int .i64) (Kd.int .i64)))) (f := (fun x : S37 => (x.f0, x.f1, x.f2))) (fun a => ⟨a.1, a.2.1, a.2.2⟩) Try.underlying37 (by kernel_rfl) (fun _ => rfl) (opensAt_cons rfl (opens_int Try.underlying3 (by kernel_rfl)) (opensAt_cons rfl (opens_int Try.underlying3 (by kernel_rfl)) (opensAt_one rfl (opens_int Try.underlying3 (by kernel_rfl)))))
def ok39 (x : S39) : Prop := (Lit.int .i64 x.f0).wf = true ∧ (Lit.int .i64 x.f1).wf = true ∧ (Lit.int .i64 x.f2).wf = true ∧ ok37 x.f3
theorem opens39 : Opens Try.prog 39 k39 ok39 := opens_struct (d := (Kd.pair (Kd.int .i64) (Kd.pair (Kd.int .i64) (Kd.pair (Kd.int .i64) k37)))) (f := (fun x : S39 => (x.f0, x.f1, x.f2, x.f3))) (fun a => ⟨a.1, a.2.1, a.2.2.1, a.2.2.2⟩) Try.underlying39 (by kernel_rfl) (fun _ => rfl) (opensAt_cons rfl (opens_int Try.underlying3 (by kernel_rfl)) (opensAt_cons rfl (opens_int Try.underlying3 (by kernel_rfl)) (opensAt_cons rfl (opens_int Try.underlying3 (by kernel_rfl)) (opensAt_one rfl opens37))))
def Pure : Prop := ∀ (l0 : List (S39)) (x1 : S39), (l0.length ≤ maxLen ∧ ∀ y ∈ l0, ok39 y) → ok39 x1 → ∃ k, laws_FnExactFactAdd.f k l0 (x1.f0) (x1.f1) (x1.f2) (x1.f3.f0) (x1.f3.f1) (x1.f3.f2) = some true
end Go.Proofs.Ytdjomoogldkpfaa.StmtFnExactFactAdd
end
section
namespace Go.Proofs.Ytdjomoogldkpfaa.UBase
open Go.RowKit Go.Proofs.YtdjomoogldkpfaaW.PrintWords
theorem w64 {x : Int} (h0 : -9223372036854775808 ≤ x) (h1 : x ≤ 9223372036854775807) : wrap64 x = x := by
  unfold wrap64
  omega
theorem w64_id (x : Int) : wrap64 x = x ∨ x < -9223372036854775808 ∨ 9223372036854775807 < x := by
  by_cases h0 : -9223372036854775808 ≤ x
  · by_cases h1 : x ≤ 9223372036854775807
    · exact .inl (w64 h0 h1)
    · exact .inr (.inr (by omega))
  · exact .inr (.inl (by omega))
theorem wf_bounds {x : Int} (h : (Lit.int .i64 x).wf = true) : -9223372036854775808 ≤ x ∧ x ≤ 9223372036854775807 := by
  simp [Lit.wf] at h
  exact ⟨h.1, h.2⟩
theorem succ_of {k n : Nat} (h : n < k) : ∃ m, k = m + 1 := ⟨k - 1, by omega⟩
def At {α : Type} (g : Nat → Option α) (K : Nat) (r : α) : Prop := ∀ k, K ≤ k → g k = some r
theorem set_getD_eq {α : Type} (l : List α) (i : Nat) (a d : α) (h : i < l.length) : (l.set i a).getD i d = a := by
  simp [List.getD, h]
theorem set_getD_ne {α : Type} (l : List α) (i j : Nat) (a d : α) (h : i ≠ j) : (l.set i a).getD j d = l.getD j d := by
  simp [List.getD, h]
theorem ext_getD {α : Type} {l m : List α} (d : α) (hl : l.length = m.length) (h : ∀ i, i < l.length → l.getD i d = m.getD i d) : l = m := by
  apply List.ext_getElem hl
  intro i h1 h2
  have := h i h1
  simpa [List.getD, List.getElem?_eq_getElem h1, List.getElem?_eq_getElem h2] using this
end Go.Proofs.Ytdjomoogldkpfaa.UBase
end
section
namespace Go.Proofs.Ytdjomoogldkpfaa.UFacts
open Go.RowKit Go.Proofs.Ytdjomoogldkpfaa.PAll Go.Proofs.YtdjomoogldkpfaaW.PrintWords Go.Proofs.YtdjomoogldkpfaaW.PrintLast Go.Proofs.Ytdjomoogldkpfaa.UBase
def lessB (a b : S43) : Bool :=
  if a.f0 = b.f0 then if a.f1 = b.f1 then if a.f2 = b.f2 then if a.f3.f0 = b.f3.f0 then if a.f3.f1 = b.f3.f1 then decide (a.f3.f2 < b.f3.f2) else decide (a.f3.f1 < b.f3.f1) else decide (a.f3.f0 < b.f3.f0) else decide (a.f2 < b.f2) else decide (a.f1 < b.f1) else decide (a.f0 < b.f0)
def Less (a b : S43) : Prop :=
  a.f0 < b.f0 ∨ a.f0 = b.f0 ∧ (a.f1 < b.f1 ∨ a.f1 = b.f1 ∧ (a.f2 < b.f2 ∨ a.f2 = b.f2 ∧ (a.f3.f0 < b.f3.f0 ∨ a.f3.f0 = b.f3.f0 ∧ (a.f3.f1 < b.f3.f1 ∨ a.f3.f1 = b.f3.f1 ∧ a.f3.f2 < b.f3.f2))))
theorem less_iff (a b : S43) : lessB a b = true ↔ Less a b := by
  unfold lessB Less
  by_cases h0 : a.f0 = b.f0
  · by_cases h1 : a.f1 = b.f1
    · by_cases h2 : a.f2 = b.f2
      · by_cases h3 : a.f3.f0 = b.f3.f0
        · by_cases h4 : a.f3.f1 = b.f3.f1
          · simp [h0, h1, h2, h3, h4]
          · simp [h0, h1, h2, h3, h4]
        · simp [h0, h1, h2, h3]
      · simp [h0, h1, h2]
    · simp [h0, h1]
  · simp [h0]
theorem ext43 {a b : S43} (h0 : a.f0 = b.f0) (h1 : a.f1 = b.f1) (h2 : a.f2 = b.f2) (h3 : a.f3.f0 = b.f3.f0) (h4 : a.f3.f1 = b.f3.f1) (h5 : a.f3.f2 = b.f3.f2) : a = b := by
  obtain ⟨a0, a1, a2, a3, a4, a5⟩ := a
  obtain ⟨b0, b1, b2, b3, b4, b5⟩ := b
  simp_all
theorem less_irrefl (a : S43) : ¬ Less a a := by
  unfold Less
  omega
theorem less_trans {a b c : S43} (h : Less a b) (k : Less b c) : Less a c := by
  unfold Less at *
  omega
theorem less_total (a b : S43) : Less a b ∨ a = b ∨ Less b a := by
  by_cases h : Less a b
  · exact .inl h
  · by_cases h' : Less b a
    · exact .inr (.inr h')
    · refine .inr (.inl (ext43 ?_ ?_ ?_ ?_ ?_ ?_)) <;> (unfold Less at *; omega)
theorem spec_less (a b : S43) : spec_FactLess.f a.f0 a.f1 a.f2 a.f3.f0 a.f3.f1 a.f3.f2 b.f0 b.f1 b.f2 b.f3.f0 b.f3.f1 b.f3.f2 = some (lessB a b) := by
  unfold spec_FactLess.f lessB
  by_cases h0 : a.f0 = b.f0
  · by_cases h1 : a.f1 = b.f1
    · by_cases h2 : a.f2 = b.f2
      · by_cases h3 : a.f3.f0 = b.f3.f0
        · by_cases h4 : a.f3.f1 = b.f3.f1
          · simp [h0, h1, h2, h3, h4]
          · simp [h0, h1, h2, h3, h4]
        · simp [h0, h1, h2, h3]
      · simp [h0, h1, h2]
    · simp [h0, h1]
  · simp [h0]
def fnz : List Int → Int
  | [] => 0
  | x :: xs => if x = 0 then fnz xs else x
theorem or_some (xs : List Int) (hn : xs.length ≤ 1000) (d : Nat) : ∀ (k i : Nat), i + d = xs.length → d < k → cmp_Or_int.l0 k 0 xs (xs.length : Int) i = some (fnz (xs.drop i)) := by
  induction d with
  | zero =>
    intro k i hi hk
    obtain ⟨k, rfl⟩ := succ_of hk
    simp only [cmp_Or_int.l0]
    rw [if_neg (by omega), List.drop_eq_nil_of_le (by omega)]
    rfl
  | succ d ih =>
    intro k i hi hk
    obtain ⟨k, rfl⟩ := succ_of hk
    have hlt : i < xs.length := by omega
    simp only [cmp_Or_int.l0]
    rw [if_pos (by omega), if_pos (by omega), if_pos (by omega), w64 (by omega) (by omega), List.drop_eq_getElem_cons hlt]
    have e : rd xs (i : Int) = xs[i] := by simp [rd, List.getD, hlt]
    rw [e]
    unfold fnz
    by_cases h : xs[i] = 0
    · rw [if_pos h, if_pos h]
      exact ih k (i + 1) (by omega) (by omega)
    · rw [if_neg h, if_neg h]
def sgn (a b : Int) : Int := if a < b then -1 else if b < a then 1 else 0
theorem cmp_some (a b : Int) : cmp_Compare_int.f a b = some (sgn a b) := by
  unfold cmp_Compare_int.f cmp_isNaN_int.f sgn
  by_cases h : a < b
  · simp [h]
  · by_cases h' : b < a
    · simp [h, h']
    · simp [h, h']
theorem sgn_eq {a b : Int} (h : a = b) : sgn a b = 0 := by
  unfold sgn
  rw [if_neg (by omega), if_neg (by omega)]
theorem sgn_ne {a b : Int} (h : a ≠ b) : sgn a b ≠ 0 ∧ decide (sgn a b < 0) = decide (a < b) := by
  unfold sgn
  by_cases h' : a < b
  · simp [h']
  · have : b < a := by omega
    simp [h', this]
theorem impl_less (k : Nat) (hk : 7 ≤ k) (a b : S43) : impl_FactLess.f k a.f0 a.f1 a.f2 a.f3.f0 a.f3.f1 a.f3.f2 b.f0 b.f1 b.f2 b.f3.f0 b.f3.f1 b.f3.f2 = some (lessB a b) := by
  unfold impl_FactLess.f impl_order.f
  simp only [cmp_some, Option.bind_some]
  have h := or_some [sgn a.f0 b.f0, sgn a.f1 b.f1, sgn a.f2 b.f2, sgn a.f3.f0 b.f3.f0, sgn a.f3.f1 b.f3.f1, sgn a.f3.f2 b.f3.f2] (by simp) 6 k 0 (by simp) (by omega)
  unfold cmp_Or_int.f
  have h' : cmp_Or_int.l0 k 0 [sgn a.f0 b.f0, sgn a.f1 b.f1, sgn a.f2 b.f2, sgn a.f3.f0 b.f3.f0, sgn a.f3.f1 b.f3.f1, sgn a.f3.f2 b.f3.f2] (([sgn a.f0 b.f0, sgn a.f1 b.f1, sgn a.f2 b.f2, sgn a.f3.f0 b.f3.f0, sgn a.f3.f1 b.f3.f1, sgn a.f3.f2 b.f3.f2].length : Nat) : Int) 0 = _ := h
  rw [h']
  simp only [Option.bind_some, List.drop_zero, Option.some.injEq, fnz]
  unfold lessB
  by_cases h0 : a.f0 = b.f0
  · rw [if_pos (sgn_eq h0), if_pos h0]
    by_cases h1 : a.f1 = b.f1
    · rw [if_pos (sgn_eq h1), if_pos h1]
      by_cases h2 : a.f2 = b.f2
      · rw [if_pos (sgn_eq h2), if_pos h2]
        by_cases h3 : a.f3.f0 = b.f3.f0
        · rw [if_pos (sgn_eq h3), if_pos h3]
          by_cases h4 : a.f3.f1 = b.f3.f1
          · rw [if_pos (sgn_eq h4), if_pos h4]
            by_cases h5 : a.f3.f2 = b.f3.f2
            · rw [if_pos (sgn_eq h5)]
              simp [h5]
            · rw [if_neg (sgn_ne h5).1]
              exact (sgn_ne h5).2
          · rw [if_neg (sgn_ne h4).1, if_neg h4]
            exact (sgn_ne h4).2
        · rw [if_neg (sgn_ne h3).1, if_neg h3]
          exact (sgn_ne h3).2
      · rw [if_neg (sgn_ne h2).1, if_neg h2]
        exact (sgn_ne h2).2
    · rw [if_neg (sgn_ne h1).1, if_neg h1]
      exact (sgn_ne h1).2
  · rw [if_neg (sgn_ne h0).1, if_neg h0]
    exact (sgn_ne h0).2
def to41 (x : S37) : S41 := ⟨x.f0, x.f1, x.f2⟩
def to43 (x : S39) : S43 := ⟨x.f0, x.f1, x.f2, to41 x.f3⟩
theorem to_fact (a b c d e f : Int) : laws_toFact.f a b c d e f = some (a, b, c, d, e, f) := rfl
theorem sz_some (l : List S39) (n : Int) (hl : l.length ≤ 9223372036854775807) (h0 : 0 ≤ n) (h1 : n ≤ 1048576) : laws_szFactS.f l n = some (if n < l.length then -1 else n - l.length) := by
  unfold laws_szFactS.f
  rw [w64 (by omega) (by omega)]
  by_cases h : n < (l.length : Int)
  · rw [if_pos (by omega), if_pos h]
  · rw [if_neg (by omega), if_neg h]
theorem toFactS_l0 (x0 : List S39) (hn : x0.length ≤ 1048576) (d : Nat) : ∀ (k i : Nat) (x3 : List S43), i + d = x0.length → d < k → x3.length = x0.length → (∀ j, j < i → x3.getD j z43 = to43 (x0.getD j z39)) →
    laws_toFactS.l0 k x0 x3 i = some (x0.map to43) := by
  induction d with
  | zero =>
    intro k i x3 hi hk hl h
    obtain ⟨k, rfl⟩ := succ_of hk
    simp only [laws_toFactS.l0]
    rw [if_neg (by omega)]
    refine congrArg some (ext_getD z43 (by simpa using hl) fun j hj => ?_)
    rw [h j (by omega)]
    simp [List.getD, show j < x0.length by omega]
  | succ d ih =>
    intro k i x3 hi hk hl h
    obtain ⟨k, rfl⟩ := succ_of hk
    simp only [laws_toFactS.l0]
    rw [if_pos (by omega), if_pos (by omega), to_fact]
    simp only [Option.bind_some]
    rw [if_pos (by omega), w64 (by omega) (by omega)]
    refine ih k (i + 1) _ (by omega) (by omega) (by simpa using hl) fun j hj => ?_
    have e : ((i : Nat) : Int).toNat = i := by omega
    rw [e]
    by_cases hji : j = i
    · subst hji
      rw [set_getD_eq _ _ _ _ (by omega)]
      simp only [rd_T39, e]
      rfl
    · rw [set_getD_ne _ _ _ _ _ (by omega)]
      exact h j (by omega)
theorem toFactS (l : List S39) (hn : l.length ≤ 1048576) (k : Nat) (hk : l.length < k) : laws_toFactS.f k l = some (l.map to43) := by
  unfold laws_toFactS.f
  rw [if_pos (by omega), if_pos (by omega)]
  exact toFactS_l0 l hn l.length k 0 _ (by omega) hk (by simp) (fun j hj => by omega)
theorem eqFact_refl (a : S43) : laws_eqFact.f a.f0 a.f1 a.f2 a.f3.f0 a.f3.f1 a.f3.f2 a.f0 a.f1 a.f2 a.f3.f0 a.f3.f1 a.f3.f2 = some true := by
  simp [laws_eqFact.f, laws_eqAbs.f]
theorem eqFactS_l0 (x : List S43) (hn : x.length ≤ 4000000) (d : Nat) : ∀ (k i : Nat), i + d = x.length → d < k → laws_eqFactS.l0 k x x i = some true := by
  induction d with
  | zero =>
    intro k i hi hk
    obtain ⟨k, rfl⟩ := succ_of hk
    simp only [laws_eqFactS.l0]
    rw [if_neg (by omega)]
  | succ d ih =>
    intro k i hi hk
    obtain ⟨k, rfl⟩ := succ_of hk
    simp only [laws_eqFactS.l0]
    rw [if_pos (by omega), if_pos (by omega), if_pos (by omega), eqFact_refl]
    simp only [Option.bind_some, if_true]
    rw [w64 (by omega) (by omega)]
    exact ih k (i + 1) (by omega) (by omega)
theorem eqFactS (x : List S43) (hn : x.length ≤ 4000000) (k : Nat) (hk : x.length < k) : laws_eqFactS.f k x x = some true := by
  unfold laws_eqFactS.f
  rw [if_pos rfl]
  exact eqFactS_l0 x hn x.length k 0 (by omega) hk
def upB (x : List S43) (i : Nat) : Bool := lessB (x.getD (i - 1) z43) (x.getD i z43)
def okFrom (x : List S43) : Nat → Nat → Bool
  | 0, _ => decide ((x.length : Int) ≤ 2500)
  | d + 1, i => if upB x i = true then okFrom x d (i + 1) else false
theorem specOk_l0 (x : List S43) (hn : x.length ≤ 4000000) (d : Nat) : ∀ (k i : Nat), 1 ≤ i → i + d = x.length ∨ (d = 0 ∧ x.length ≤ i) → d < k → i ≤ 4000001 → spec_FactsOk.l0 k x i = some (okFrom x d i) := by
  induction d with
  | zero =>
    intro k i h1 hi hk hb
    obtain ⟨k, rfl⟩ := succ_of hk
    simp only [spec_FactsOk.l0]
    rw [if_neg (by omega)]
    rfl
  | succ d ih =>
    intro k i h1 hi hk hb
    obtain ⟨k, rfl⟩ := succ_of hk
    simp only [spec_FactsOk.l0]
    rw [if_pos (by omega), w64 (by omega) (by omega), if_pos (by omega), if_pos (by omega), if_pos (by omega), spec_less]
    simp only [Option.bind_some]
    have e : lessB (rd_T43 x (↑i - 1)) (rd_T43 x ↑i) = upB x i := by
      unfold upB rd_T43
      rw [show ((i : Int) - 1).toNat = i - 1 by omega, show (i : Int).toNat = i by omega]
    rw [e, w64 (by omega) (by omega)]
    unfold okFrom
    by_cases h : upB x i = true
    · rw [if_pos h, if_pos h]
      exact ih k (i + 1) (by omega) (by omega) (by omega) (by omega)
    · rw [if_neg h, if_neg h]
theorem implOk_l0 (x : List S43) (hn : x.length ≤ 4000000) (d : Nat) : ∀ (k i : Nat), 1 ≤ i → i + d = x.length ∨ (d = 0 ∧ x.length ≤ i) → d + 8 < k → i ≤ 4000001 → impl_FactsOk.l0 k x i = some (okFrom x d i) := by
  induction d with
  | zero =>
    intro k i h1 hi hk hb
    obtain ⟨k, rfl⟩ := succ_of (show 0 < k by omega)
    simp only [impl_FactsOk.l0]
    rw [if_neg (by omega)]
    rfl
  | succ d ih =>
    intro k i h1 hi hk hb
    obtain ⟨k, rfl⟩ := succ_of (show 0 < k by omega)
    simp only [impl_FactsOk.l0]
    rw [if_pos (by omega), w64 (by omega) (by omega), if_pos (by omega), if_pos (by omega), if_pos (by omega), impl_less _ (by omega)]
    simp only [Option.bind_some]
    have e : lessB (rd_T43 x (↑i - 1)) (rd_T43 x ↑i) = upB x i := by
      unfold upB rd_T43
      rw [show ((i : Int) - 1).toNat = i - 1 by omega, show (i : Int).toNat = i by omega]
    rw [e, w64 (by omega) (by omega)]
    unfold okFrom
    by_cases h : upB x i = true
    · rw [if_pos h, if_pos h]
      exact ih k (i + 1) (by omega) (by omega) (by omega) (by omega)
    · rw [if_neg h, if_neg h]
def okB (x : List S43) : Bool := okFrom x (x.length - 1) 1
theorem specOk (x : List S43) (hn : x.length ≤ 4000000) (k : Nat) (hk : x.length < k) : spec_FactsOk.f k x = some (okB x) := by
  unfold spec_FactsOk.f okB
  exact specOk_l0 x hn _ k 1 (by omega) (by omega) (by omega) (by omega)
theorem implOk (x : List S43) (hn : x.length ≤ 4000000) (k : Nat) (hk : x.length + 8 < k) : impl_FactsOk.f k x = some (okB x) := by
  unfold impl_FactsOk.f okB
  exact implOk_l0 x hn _ k 1 (by omega) (by omega) (by omega) (by omega)
theorem ok_len {x : List S43} (h : okB x = true) : x.length ≤ 2500 := by
  have key : ∀ d i, okFrom x d i = true → x.length ≤ 2500 := by
    intro d
    induction d with
    | zero =>
      intro i h
      simp [okFrom] at h
      omega
    | succ d ih =>
      intro i h
      unfold okFrom at h
      split at h
      · exact ih _ h
      · cases h
  exact key _ _ h
theorem ok_up {x : List S43} (h : okB x = true) : ∀ i, 1 ≤ i → i < x.length → Less (x.getD (i - 1) z43) (x.getD i z43) := by
  have key : ∀ d i, okFrom x d i = true → i + d = x.length → ∀ j, i ≤ j → j < x.length → Less (x.getD (j - 1) z43) (x.getD j z43) := by
    intro d
    induction d with
    | zero =>
      intro i _ hi j h1 h2
      omega
    | succ d ih =>
      intro i h hi j h1 h2
      unfold okFrom at h
      by_cases hu : upB x i = true
      · rw [if_pos hu] at h
        by_cases hij : i = j
        · subst hij
          exact (less_iff _ _).1 hu
        · exact ih (i + 1) h (by omega) j (by omega) h2
      · rw [if_neg hu] at h
        cases h
  intro i h1 h2
  exact key _ _ h (by omega) i h1 h2
theorem ok_mono {x : List S43} (h : okB x = true) (i : Nat) : ∀ d, i + d + 1 < x.length + 0 → Less (x.getD i z43) (x.getD (i + d + 1) z43) := by
  intro d
  induction d with
  | zero =>
    intro hd
    exact ok_up h (i + 1) (by omega) (by omega)
  | succ d ih =>
    intro hd
    exact less_trans (ih (by omega)) (ok_up h (i + (d + 1) + 1) (by omega) (by omega))
theorem ok_lt {x : List S43} (h : okB x = true) {i j : Nat} (hij : i < j) (hj : j < x.length) : Less (x.getD i z43) (x.getD j z43) := by
  have := ok_mono h i (j - i - 1) (by omega)
  rwa [show i + (j - i - 1) + 1 = j by omega] at this
def placeB (x : List S43) (f : S43) : Nat → Nat → Nat → Nat
  | 0, lo, _ => lo
  | d + 1, lo, hi => if lo < hi then (if lessB (x.getD ((lo + hi) / 2) z43) f = true then placeB x f d ((lo + hi) / 2 + 1) hi else placeB x f d lo ((lo + hi) / 2)) else lo
theorem specPlace_l0 (x : List S43) (f : S43) (hn : x.length ≤ 4000000) (d : Nat) : ∀ (k lo hi : Nat), hi ≤ lo + d → hi ≤ x.length → lo ≤ 4000001 → d < k → spec_l15Place.l0 k x lo hi f.f0 f.f1 f.f2 f.f3.f0 f.f3.f1 f.f3.f2 = some (placeB x f d lo hi : Int) := by
  induction d with
  | zero =>
    intro k lo hi h hh hb hk
    obtain ⟨k, rfl⟩ := succ_of hk
    simp only [spec_l15Place.l0, placeB]
    rw [if_neg (by omega)]
  | succ d ih =>
    intro k lo hi h hh hb hk
    obtain ⟨k, rfl⟩ := succ_of hk
    simp only [spec_l15Place.l0, placeB]
    by_cases hlt : lo < hi
    · have em : wrap64 (Int.tdiv (wrap64 ((lo : Int) + (hi : Int))) 2) = (((lo + hi) / 2 : Nat) : Int) := by
        rw [w64 (x := (lo : Int) + hi) (by omega) (by omega), Int.tdiv_eq_ediv_of_nonneg (by omega), w64 (by omega) (by omega)]
        omega
      rw [em, if_pos (by omega), if_pos (by omega), if_pos (by omega), if_pos hlt, spec_less]
      simp only [Option.bind_some]
      have e : rd_T43 x (((lo + hi) / 2 : Nat) : Int) = x.getD ((lo + hi) / 2) z43 := by
        unfold rd_T43
        rw [Int.toNat_natCast]
      rw [e]
      by_cases hl : lessB (x.getD ((lo + hi) / 2) z43) f = true
      · rw [if_pos hl, if_pos hl, w64 (by omega) (by omega)]
        exact ih k ((lo + hi) / 2 + 1) hi (by omega) hh (by omega) (by omega)
      · rw [if_neg hl, if_neg hl]
        exact ih k lo ((lo + hi) / 2) (by omega) (by omega) (by omega) (by omega)
    · rw [if_neg (by omega), if_neg hlt]
theorem implPlace_l0 (x : List S43) (f : S43) (hn : x.length ≤ 4000000) (d : Nat) : ∀ (k lo hi : Nat), hi ≤ lo + d → hi ≤ x.length → lo ≤ 4000001 → d + 8 < k → impl_factAt.l0 k x lo hi f.f0 f.f1 f.f2 f.f3.f0 f.f3.f1 f.f3.f2 = some (placeB x f d lo hi : Int) := by
  induction d with
  | zero =>
    intro k lo hi h hh hb hk
    obtain ⟨k, rfl⟩ := succ_of (show 0 < k by omega)
    simp only [impl_factAt.l0, placeB]
    rw [if_neg (by omega)]
  | succ d ih =>
    intro k lo hi h hh hb hk
    obtain ⟨k, rfl⟩ := succ_of (show 0 < k by omega)
    simp only [impl_factAt.l0, placeB]
    by_cases hlt : lo < hi
    · have em : wrap64 (Int.tdiv (wrap64 ((lo : Int) + (hi : Int))) 2) = (((lo + hi) / 2 : Nat) : Int) := by
        rw [w64 (x := (lo : Int) + hi) (by omega) (by omega), Int.tdiv_eq_ediv_of_nonneg (by omega), w64 (by omega) (by omega)]
        omega
      rw [em, if_pos (by omega), if_pos (by omega), if_pos (by omega), if_pos hlt, impl_less _ (by omega)]
      simp only [Option.bind_some]
      have e : rd_T43 x (((lo + hi) / 2 : Nat) : Int) = x.getD ((lo + hi) / 2) z43 := by
        unfold rd_T43
        rw [Int.toNat_natCast]
      rw [e]
      by_cases hl : lessB (x.getD ((lo + hi) / 2) z43) f = true
      · rw [if_pos hl, if_pos hl, w64 (by omega) (by omega)]
        exact ih k ((lo + hi) / 2 + 1) hi (by omega) hh (by omega) (by omega)
      · rw [if_neg hl, if_neg hl]
        exact ih k lo ((lo + hi) / 2) (by omega) (by omega) (by omega) (by omega)
    · rw [if_neg (by omega), if_neg hlt]
def place (x : List S43) (f : S43) : Nat := placeB x f x.length 0 x.length
theorem specPlace (x : List S43) (f : S43) (hn : x.length ≤ 4000000) (k : Nat) (hk : x.length < k) : spec_l15Place.f k x f.f0 f.f1 f.f2 f.f3.f0 f.f3.f1 f.f3.f2 = some (place x f : Int) := by
  unfold spec_l15Place.f place
  exact specPlace_l0 x f hn _ k 0 _ (by omega) (by omega) (by omega) hk
theorem implPlace (x : List S43) (f : S43) (hn : x.length ≤ 4000000) (k : Nat) (hk : x.length + 8 < k) : impl_factAt.f k x f.f0 f.f1 f.f2 f.f3.f0 f.f3.f1 f.f3.f2 = some (place x f : Int) := by
  unfold impl_factAt.f place
  exact implPlace_l0 x f hn _ k 0 _ (by omega) (by omega) (by omega) hk
def eqB (a f : S43) : Bool := a.f0 == f.f0 && (a.f1 == f.f1 && (a.f2 == f.f2 && ((a.f3.f0 == f.f3.f0 && (a.f3.f1 == f.f3.f1 && (a.f3.f2 == f.f3.f2))))))
def hasB (x : List S43) (f : S43) : Bool := if place x f < x.length then eqB (x.getD (place x f) z43) f else false
theorem specHas (x : List S43) (f : S43) (hn : x.length ≤ 4000000) (k : Nat) (hk : x.length < k) : spec_FactHas.f k x f.f0 f.f1 f.f2 f.f3.f0 f.f3.f1 f.f3.f2 = some (okB x && hasB x f) := by
  unfold spec_FactHas.f hasB
  rw [specOk x hn k hk]
  simp only [Option.bind_some]
  by_cases h : okB x = true
  · rw [if_pos h, specPlace x f hn k hk]
    simp only [Option.bind_some]
    by_cases h' : place x f < x.length
    · rw [if_pos (by omega), if_pos (by omega), if_pos h', h]
      simp only [rd_T43, Int.toNat_natCast, Bool.true_and]
      rfl
    · rw [if_neg (by omega), if_neg h']
      simp
  · rw [if_neg h]
    simp [h]
theorem implHas_ (x : List S43) (f : S43) (hn : x.length ≤ 4000000) (k : Nat) (hk : x.length + 8 < k) : impl_has.f k x f.f0 f.f1 f.f2 f.f3.f0 f.f3.f1 f.f3.f2 = some (hasB x f) := by
  unfold impl_has.f hasB
  rw [implPlace x f hn k hk]
  simp only [Option.bind_some]
  by_cases h' : place x f < x.length
  · rw [if_pos (by omega), if_pos (by omega), if_pos h']
    simp only [rd_T43, Int.toNat_natCast]
    rfl
  · rw [if_neg (by omega), if_neg h']
theorem implHas (x : List S43) (f : S43) (hn : x.length ≤ 4000000) (k : Nat) (hk : x.length + 8 < k) : impl_FactHas.f k x f.f0 f.f1 f.f2 f.f3.f0 f.f3.f1 f.f3.f2 = some (okB x && hasB x f) := by
  unfold impl_FactHas.f
  rw [implOk x hn k hk]
  simp only [Option.bind_some]
  by_cases h : okB x = true
  · rw [if_pos h, implHas_ x f hn k hk, h]
    rfl
  · rw [if_neg h]
    simp [h]
end Go.Proofs.Ytdjomoogldkpfaa.UFacts
end
section
namespace Go.Proofs.Ytdjomoogldkpfaa.UFacts
open Go.RowKit Go.Proofs.Ytdjomoogldkpfaa.PAll Go.Proofs.YtdjomoogldkpfaaW.PrintWords Go.Proofs.YtdjomoogldkpfaaW.PrintLast Go.Proofs.Ytdjomoogldkpfaa.UBase
theorem Less.trans {a b c : S43} (h : Less a b) (h' : Less b c) : Less a c := by
  unfold Less at *
  omega
theorem placeB_spec (x : List S43) (f : S43) (h : okB x = true) (d : Nat) : ∀ (lo hi : Nat), lo ≤ hi → hi ≤ lo + d → hi ≤ x.length → (∀ j, j < lo → Less (x.getD j z43) f) → (∀ j, hi ≤ j → j < x.length → ¬ Less (x.getD j z43) f) →
    placeB x f d lo hi ≤ x.length ∧ (∀ j, j < placeB x f d lo hi → Less (x.getD j z43) f) ∧ (∀ j, placeB x f d lo hi ≤ j → j < x.length → ¬ Less (x.getD j z43) f) := by
  induction d with
  | zero =>
    intro lo hi h0 h1 h2 ha hb
    have : hi = lo := by omega
    subst this
    exact ⟨h2, ha, hb⟩
  | succ d ih =>
    intro lo hi h0 h1 h2 ha hb
    simp only [placeB]
    by_cases hl : lo < hi
    · rw [if_pos hl]
      by_cases hm : lessB (x.getD ((lo + hi) / 2) z43) f = true
      · rw [if_pos hm]
        have hm' := (less_iff _ _).1 hm
        refine ih _ _ (by omega) (by omega) h2 (fun j hj => ?_) hb
        by_cases hjm : j = (lo + hi) / 2
        · rw [hjm]; exact hm'
        · exact (ok_lt h (show j < (lo + hi) / 2 by omega) (by omega)).trans hm'
      · rw [if_neg hm]
        have hm' : ¬ Less (x.getD ((lo + hi) / 2) z43) f := fun e => hm ((less_iff _ _).2 e)
        refine ih _ _ (by omega) (by omega) (by omega) ha (fun j hj hj' => ?_)
        by_cases hjm : j = (lo + hi) / 2
        · rw [hjm]; exact hm'
        · exact fun e => hm' ((ok_lt h (show (lo + hi) / 2 < j by omega) hj').trans e)
    · rw [if_neg hl]
      have : hi = lo := by omega
      subst this
      exact ⟨h2, ha, hb⟩
theorem place_spec (x : List S43) (f : S43) (h : okB x = true) : place x f ≤ x.length ∧ (∀ j, j < place x f → Less (x.getD j z43) f) ∧ (∀ j, place x f ≤ j → j < x.length → ¬ Less (x.getD j z43) f) :=
  placeB_spec x f h x.length 0 x.length (by omega) (by omega) (by omega) (fun j hj => by omega) (fun j h1 h2 => by omega)
def KeyAt (a b c : Int) (e : S43) : Prop := e.f0 = a ∧ e.f1 = b ∧ e.f2 = c
instance (a b c : Int) (e : S43) : Decidable (KeyAt a b c e) := inferInstanceAs (Decidable (_ ∧ _ ∧ _))
def absFrom (x : List S43) (a b c : Int) : Nat → Nat → List S41
  | 0, _ => []
  | d + 1, i => if KeyAt a b c (x.getD i z43) ∧ 0 ≤ (x.getD i z43).f3.f0 then (x.getD i z43).f3 :: absFrom x a b c d (i + 1) else absFrom x a b c d (i + 1)
def absB (x : List S43) (a b c : Int) : List S41 := if okB x = true then absFrom x a b c x.length 0 else []
theorem absFrom_len (x : List S43) (a b c : Int) (d : Nat) : ∀ i, (absFrom x a b c d i).length ≤ d := by
  induction d with
  | zero => intro i; simp [absFrom]
  | succ d ih =>
    intro i
    simp only [absFrom]
    have := ih (i + 1)
    split <;> simp <;> omega
theorem absB_len (x : List S43) (a b c : Int) : (absB x a b c).length ≤ x.length := by
  unfold absB
  split
  · exact absFrom_len x a b c _ _
  · simp
theorem rd_fact (x : List S43) (i : Nat) : rd_T43 x (i : Int) = x.getD i z43 := by
  unfold rd_T43
  rw [Int.toNat_natCast]
theorem implAbs_l0 (x : List S43) (a b c : Int) (hn : x.length ≤ 4000000) (d : Nat) : ∀ (k i : Nat) (y : List S41), i + d = x.length → d < k → y.length + d ≤ 4000000 → impl_AbsAt.l0 k a b c y x x.length i = some (y ++ absFrom x a b c d i) := by
  induction d with
  | zero =>
    intro k i y hi hk hy
    obtain ⟨k, rfl⟩ := succ_of hk
    simp only [impl_AbsAt.l0, absFrom]
    rw [if_neg (by omega), List.append_nil]
  | succ d ih =>
    intro k i y hi hk hy
    obtain ⟨k, rfl⟩ := succ_of hk
    simp only [impl_AbsAt.l0, absFrom, rd_fact]
    rw [if_pos (by omega), if_pos (by omega), if_pos (by omega), w64 (by omega) (by omega)]
    generalize x.getD i z43 = e
    have nope : ¬ (KeyAt a b c e ∧ 0 ≤ e.f3.f0) → impl_AbsAt.l0 k a b c y x x.length ((i : Int) + 1) = some (y ++ (if KeyAt a b c e ∧ 0 ≤ e.f3.f0 then e.f3 :: absFrom x a b c d (i + 1) else absFrom x a b c d (i + 1))) := by
      intro hc
      rw [if_neg hc]
      exact ih k (i + 1) y (by omega) (by omega) (by omega)
    by_cases h0 : e.f0 = a
    · by_cases h1 : e.f1 = b
      · by_cases h2 : e.f2 = c
        · by_cases h3 : e.f3.f0 ≥ 0
          · rw [if_pos h0, if_pos h1, if_pos h2, if_pos h3, if_pos (by omega), if_pos ⟨⟨h0, h1, h2⟩, h3⟩]
            have := ih k (i + 1) (y ++ [e.f3]) (by omega) (by omega) (by simp; omega)
            rw [List.append_assoc] at this
            exact this
          · rw [if_pos h0, if_pos h1, if_pos h2, if_neg h3]
            exact nope fun hc => h3 hc.2
        · rw [if_pos h0, if_pos h1, if_neg h2]
          exact nope fun hc => h2 hc.1.2.2
      · rw [if_pos h0, if_neg h1]
        exact nope fun hc => h1 hc.1.2.1
    · rw [if_neg h0]
      exact nope fun hc => h0 hc.1.1
theorem implAbs (x : List S43) (a b c : Int) (hn : x.length ≤ 1100000) (k : Nat) (hk : x.length + 10 < k) : impl_AbsAt.f k x a b c = some (absB x a b c) := by
  unfold impl_AbsAt.f absB
  rw [implOk x (by omega) k (by omega)]
  simp only [Option.bind_some]
  by_cases h : okB x = true
  · rw [if_pos h, if_pos h]
    exact implAbs_l0 x a b c (by omega) x.length k 0 [] (by omega) (by omega) (by simp; omega)
  · rw [if_neg h, if_neg h]
theorem absFrom_none (x : List S43) (a b c : Int) (d : Nat) : ∀ i, (∀ j, i ≤ j → j < i + d → ¬ (KeyAt a b c (x.getD j z43) ∧ 0 ≤ (x.getD j z43).f3.f0)) → absFrom x a b c d i = [] := by
  induction d with
  | zero => intro i _; rfl
  | succ d ih =>
    intro i h
    simp only [absFrom]
    rw [if_neg (h i (by omega) (by omega))]
    exact ih (i + 1) fun j h1 h2 => h j (by omega) (by omega)
theorem absFrom_skip (x : List S43) (a b c : Int) (d e : Nat) : ∀ i, (∀ j, i ≤ j → j < i + d → ¬ (KeyAt a b c (x.getD j z43) ∧ 0 ≤ (x.getD j z43).f3.f0)) → absFrom x a b c (d + e) i = absFrom x a b c e (i + d) := by
  induction d with
  | zero => intro i _; rw [Nat.zero_add]; rfl
  | succ d ih =>
    intro i h
    rw [show d + 1 + e = (d + e) + 1 by omega]
    simp only [absFrom]
    rw [if_neg (h i (by omega) (by omega)), ih (i + 1) fun j h1 h2 => h j (by omega) (by omega), show i + 1 + d = i + (d + 1) by omega]
def low (a b c : Int) : S43 := ⟨a, b, c, ⟨-1, 0, 0⟩⟩
theorem specAbs_l0 (x : List S43) (a b c : Int) (h : okB x = true) (hn : x.length ≤ 4000000) (d : Nat) : ∀ (k i : Nat) (y : List S41), i + d = x.length → 2 * d + 2 < k → y.length + d ≤ 4000000 → (∀ j, i ≤ j → j < x.length → ¬ Less (x.getD j z43) (low a b c)) → spec_l15At.l0 k x a b c y i = some (y ++ absFrom x a b c d i) := by
  have stop : ∀ (k : Nat) (y : List S41) (i : Int), 0 < k → spec_l15At.j1 k x a b c y i false = some y := by
    intro k y i hk
    obtain ⟨k, rfl⟩ := succ_of hk
    simp only [spec_l15At.j1]
    rw [if_neg (by simp)]
  induction d with
  | zero =>
    intro k i y hi hk hy _
    obtain ⟨k, rfl⟩ := succ_of (show 0 < k by omega)
    simp only [spec_l15At.l0, absFrom]
    rw [if_neg (by omega), stop _ _ _ (by omega), List.append_nil]
  | succ d ih =>
    intro k i y hi hk hy hj
    obtain ⟨k, rfl⟩ : ∃ m, k = m + 2 := ⟨k - 2, by omega⟩
    have off : ¬ KeyAt a b c (x.getD i z43) → y = y ++ absFrom x a b c (d + 1) i := by
      intro hc
      rw [absFrom_none x a b c (d + 1) i, List.append_nil]
      intro j h1 h2 hk'
      by_cases hji : j = i
      · subst hji; exact hc hk'.1
      · have hl := ok_lt h (show i < j by omega) (by omega)
        have hi' := hj i (by omega) (by omega)
        obtain ⟨⟨k0, k1, k2⟩, k3⟩ := hk'
        revert hc hl hi' k0 k1 k2 k3
        generalize x.getD j z43 = u
        generalize x.getD i z43 = v
        unfold KeyAt Less low
        simp only
        omega
    simp only [spec_l15At.l0, rd_fact]
    rw [if_pos (by omega), if_pos (by omega)]
    by_cases h0 : (x.getD i z43).f0 = a
    · by_cases h1 : (x.getD i z43).f1 = b
      · by_cases h2 : (x.getD i z43).f2 = c
        · rw [if_pos h0, if_pos h1, h2, beq_self_eq_true]
          simp only [spec_l15At.j1, rd_fact, absFrom]
          rw [if_pos trivial, if_pos (by omega), if_pos (by omega), w64 (by omega) (by omega)]
          by_cases h3 : (x.getD i z43).f3.f0 ≥ 0
          · rw [if_pos h3, if_pos (by omega), if_pos ⟨⟨h0, h1, h2⟩, h3⟩]
            have := ih k (i + 1) (y ++ [(x.getD i z43).f3]) (by omega) (by omega) (by simp; omega) (fun j h4 h5 => hj j (by omega) h5)
            rw [List.append_assoc] at this
            exact this
          · rw [if_neg h3, if_neg fun hc => h3 hc.2]
            exact ih k (i + 1) y (by omega) (by omega) (by omega) (fun j h4 h5 => hj j (by omega) h5)
        · rw [if_pos h0, if_pos h1, beq_false_of_ne h2, stop _ _ _ (by omega)]
          exact congrArg some (off fun hc => h2 hc.2.2)
      · rw [if_pos h0, if_neg h1, stop _ _ _ (by omega)]
        exact congrArg some (off fun hc => h1 hc.2.1)
    · rw [if_neg h0, stop _ _ _ (by omega)]
      exact congrArg some (off fun hc => h0 hc.1)
theorem specAbs (x : List S43) (a b c : Int) (hn : x.length ≤ 1100000) (k : Nat) (hk : 2 * x.length + 10 < k) : spec_AbsAt.f k x a b c = some (absB x a b c) := by
  unfold spec_AbsAt.f absB
  rw [specOk x (by omega) k (by omega)]
  simp only [Option.bind_some]
  by_cases h : okB x = true
  · rw [if_pos h, if_pos h]
    unfold spec_l15At.f
    have hp := specPlace x (low a b c) (by omega) k (by omega)
    obtain ⟨h0, h1, h2⟩ := place_spec x (low a b c) h
    have hp' : spec_l15Place.f k x a b c (-1) 0 0 = some (place x (low a b c) : Int) := hp
    rw [hp']
    simp only [Option.bind_some]
    rw [specAbs_l0 x a b c h (by omega) (x.length - place x (low a b c)) k (place x (low a b c)) [] (by omega) (by omega) (by simp; omega) h2]
    simp only [Option.bind_some, List.nil_append]
    refine congrArg some ?_
    have := absFrom_skip x a b c (place x (low a b c)) (x.length - place x (low a b c)) 0 (fun j _ h4 hc => by
      have hl := h1 j (by omega)
      obtain ⟨⟨k0, k1, k2⟩, k3⟩ := hc
      revert hl k0 k1 k2 k3
      generalize x.getD j z43 = u
      unfold Less low
      simp only
      omega)
    rw [show place x (low a b c) + (x.length - place x (low a b c)) = x.length by omega, Nat.zero_add] at this
    exact this.symm
  · rw [if_neg h, if_neg h]
end Go.Proofs.Ytdjomoogldkpfaa.UFacts
end
section
namespace Go.Proofs.Ytdjomoogldkpfaa.UFacts
open Go.RowKit Go.Proofs.Ytdjomoogldkpfaa.PAll Go.Proofs.YtdjomoogldkpfaaW.PrintWords Go.Proofs.YtdjomoogldkpfaaW.PrintLast Go.Proofs.Ytdjomoogldkpfaa.UBase
def putB (x : List S43) (f : S43) : List S43 := (x.take (place x f) ++ [f]) ++ x.drop (place x f)
def addB (x : List S43) (f : S43) : List S43 := if okB x = true then (if (x.length : Int) ≥ 2500 then x else if hasB x f = true then x else putB x f) else x
theorem addB_len (x : List S43) (f : S43) : (addB x f).length ≤ x.length + 1 := by
  unfold addB putB
  split
  · split
    · omega
    · split
      · omega
      · simp; omega
  · omega
theorem implAdd (x : List S43) (f : S43) (hn : x.length ≤ 1100000) (k : Nat) (hk : x.length + 20 < k) : impl_FactAdd.f k x f.f0 f.f1 f.f2 f.f3.f0 f.f3.f1 f.f3.f2 = some (addB x f) := by
  unfold impl_FactAdd.f addB
  rw [if_pos (by simp; omega), implOk x (by omega) k (by omega)]
  simp only [Option.bind_some, List.nil_append]
  by_cases h : okB x = true
  · rw [if_pos h, if_pos h]
    by_cases hl : (x.length : Int) ≥ 2500
    · rw [if_pos hl, if_pos hl]
    · rw [if_neg hl, if_neg hl, implHas_ x f (by omega) k (by omega)]
      simp only [Option.bind_some]
      by_cases hh : hasB x f = true
      · rw [if_pos hh, if_pos hh]
      · obtain ⟨hp, _, _⟩ := place_spec x f h
        rw [if_neg hh, if_neg hh, implPlace x f (by omega) k (by omega)]
        simp only [Option.bind_some, Int.toNat_natCast]
        rw [if_pos (by omega), if_pos (by omega), if_pos (by simp; omega), if_pos (by omega), if_pos (by simp; omega)]
        rfl
  · rw [if_neg h, if_neg h]
theorem spec15Add (x : List S43) (f : S43) (hn : x.length ≤ 1100000) (h : okB x = true) (k : Nat) (hk : x.length + 20 < k) : spec_l15Add.f k x f.f0 f.f1 f.f2 f.f3.f0 f.f3.f1 f.f3.f2 = some (if hasB x f = true then x else putB x f) := by
  obtain ⟨hp, _, _⟩ := place_spec x f h
  unfold spec_l15Add.f
  rw [specPlace x f (by omega) k (by omega)]
  simp only [Option.bind_some, Int.toNat_natCast, List.nil_append, List.length_nil]
  by_cases hl : place x f < x.length
  · rw [if_pos (by omega), if_pos (by omega)]
    have e : hasB x f = eqB (x.getD (place x f) z43) f := by unfold hasB; rw [if_pos hl]
    have e2 : (((rd_T43 x (place x f : Int)).f0) == f.f0 && (((rd_T43 x (place x f : Int)).f1) == f.f1 && (((rd_T43 x (place x f : Int)).f2) == f.f2 && ((((rd_T43 x (place x f : Int)).f3.f0) == f.f3.f0 && (((rd_T43 x (place x f : Int)).f3.f1) == f.f3.f1 && (((rd_T43 x (place x f : Int)).f3.f2) == f.f3.f2))))))) = hasB x f := by
      rw [e, rd_fact]; rfl
    rw [e2]
    by_cases hh : hasB x f = true
    · rw [if_pos hh, if_pos hh]
    · rw [if_neg hh, if_neg hh, if_pos (by omega), if_pos (by simp; omega), if_pos (by simp; omega), if_pos (by simp; omega)]
      rfl
  · have e : hasB x f = false := by unfold hasB; rw [if_neg hl]
    have hr : (if hasB x f = true then x else putB x f) = putB x f := by rw [e]; rfl
    rw [if_neg (by omega), hr, if_pos (by omega), if_pos (by omega), if_pos (by simp; omega), if_pos (by simp; omega), if_pos (by simp; omega)]
    rfl
theorem specAdd (x : List S43) (f : S43) (hn : x.length ≤ 1100000) (k : Nat) (hk : x.length + 20 < k) : spec_FactAdd.f k x f.f0 f.f1 f.f2 f.f3.f0 f.f3.f1 f.f3.f2 = some (addB x f) := by
  unfold spec_FactAdd.f addB
  rw [specOk x (by omega) k (by omega)]
  simp only [Option.bind_some, List.nil_append, List.length_nil]
  by_cases h : okB x = true
  · rw [if_pos h, if_pos h]
    by_cases hl : (x.length : Int) ≥ 2500
    · rw [if_pos hl, if_pos hl, if_pos (by omega)]
    · rw [if_neg hl, if_neg hl, spec15Add x f hn h k hk]
      simp only [Option.bind_some]
      have hz : (if hasB x f = true then x else putB x f).length ≤ x.length + 1 := by
        split
        · omega
        · unfold putB; simp; omega
      rw [if_pos (by omega)]
  · rw [if_neg h, if_neg h, if_pos (by omega)]
end Go.Proofs.Ytdjomoogldkpfaa.UFacts
end
section
namespace Go.Proofs.Ytdjomoogldkpfaa.UMark
open Go.RowKit Go.Proofs.Ytdjomoogldkpfaa.PAll Go.Proofs.YtdjomoogldkpfaaW.PrintWords Go.Proofs.YtdjomoogldkpfaaW.PrintLast Go.Proofs.Ytdjomoogldkpfaa.UBase
theorem set_at43 (p : List S43) (a v : S43) (t : List S43) : (p ++ a :: t).set ((p.length : Nat) : Int).toNat v = p ++ v :: t := by
  rw [Int.toNat_natCast, List.set_append_right _ _ (Nat.le_refl _), Nat.sub_self, List.set_cons_zero]
theorem rd_at43 (p : List S43) (a : S43) (t : List S43) : rd_T43 (p ++ a :: t) ((p.length : Nat) : Int) = a := by
  unfold rd_T43
  rw [Int.toNat_natCast]
  simp [List.getD]
def mkFact (n : Int) : S43 := ⟨n, n + 1, n + 1 + 1, ⟨n + 1 + 1 + 1, n + 1 + 1 + 1 + 1, n + 1 + 1 + 1 + 1 + 1⟩⟩
def mkFactL : Int → Nat → List S43
  | _, 0 => []
  | n, d + 1 => mkFact n :: mkFactL (n + 1 + 1 + 1 + 1 + 1 + 1) d
theorem markFactS_l0 (d : Nat) : ∀ (k : Nat) (n : Int) (p x : List S43), x.length = d → d < k → p.length + d ≤ 4000000 → 0 ≤ n → n + 6 * d ≤ 4000000000 → laws_markFactS.l0 k (p ++ x) n p.length = some (n + 6 * d, p ++ mkFactL n d) := by
  induction d with
  | zero =>
    intro k n p x hx hk hp h0 h1
    obtain ⟨k, rfl⟩ := succ_of hk
    have : x = [] := List.eq_nil_of_length_eq_zero hx
    subst this
    simp [laws_markFactS.l0, mkFactL]
  | succ d ih =>
    intro k n p x hx hk hp h0 h1
    obtain ⟨k, rfl⟩ := succ_of hk
    obtain ⟨a, t, rfl⟩ : ∃ a t, x = a :: t := by
      cases x with
      | nil => simp at hx
      | cons a t => exact ⟨a, t, rfl⟩
    have ht : t.length = d := by simpa using hx
    have e1 : wrap64 (n + 1) = n + 1 := w64 (by omega) (by omega)
    have e2 : wrap64 (n + 1 + 1) = n + 1 + 1 := w64 (by omega) (by omega)
    have e3 : wrap64 (n + 1 + 1 + 1) = n + 1 + 1 + 1 := w64 (by omega) (by omega)
    have e4 : wrap64 (n + 1 + 1 + 1 + 1) = n + 1 + 1 + 1 + 1 := w64 (by omega) (by omega)
    have e5 : wrap64 (n + 1 + 1 + 1 + 1 + 1) = n + 1 + 1 + 1 + 1 + 1 := w64 (by omega) (by omega)
    have e6 : wrap64 (n + 1 + 1 + 1 + 1 + 1 + 1) = n + 1 + 1 + 1 + 1 + 1 + 1 := w64 (by omega) (by omega)
    have ep : wrap64 ((p.length : Int) + 1) = ((p ++ [mkFact n]).length : Nat) := by rw [w64 (by omega) (by omega)]; simp
    simp only [laws_markFactS.l0, e1, e2, e3, e4, e5, e6, ep, set_at43, rd_at43, Option.bind_some]
    rw [if_pos (by simp; omega), if_pos (by omega)]
    have := ih k (n + 1 + 1 + 1 + 1 + 1 + 1) (p ++ [mkFact n]) t ht (by omega) (by simp; omega) (by omega) (by omega)
    rw [List.append_assoc, List.append_assoc] at this
    refine Eq.trans this ?_
    refine congrArg some (Prod.ext ?_ rfl)
    show n + 1 + 1 + 1 + 1 + 1 + 1 + 6 * (d : Int) = n + 6 * ((d + 1 : Nat) : Int)
    omega
theorem markFactS (x : List S43) (hx : x.length ≤ 1100000) (k : Nat) (hk : x.length < k) : laws_markFactS.f k x 1 = some (1 + 6 * (x.length : Int), mkFactL 1 x.length) := markFactS_l0 x.length k 1 [] x rfl hk (by simp; omega) (by omega) (by omega)
end Go.Proofs.Ytdjomoogldkpfaa.UMark
end
section
namespace Go.Proofs.Ytdjomoogldkpfaa.UMark
open Go.RowKit Go.Proofs.Ytdjomoogldkpfaa.PAll Go.Proofs.YtdjomoogldkpfaaW.PrintWords Go.Proofs.YtdjomoogldkpfaaW.PrintLast Go.Proofs.Ytdjomoogldkpfaa.UBase
theorem heldFactS_l0 (d : Nat) : ∀ (k : Nat) (n : Int) (p : List S43), d < k → p.length + d ≤ 4000000 → 0 ≤ n → n + 6 * d ≤ 4000000000 → laws_heldFactS.l0 k (p ++ mkFactL n d) n p.length = some (n + 6 * d) := by
  induction d with
  | zero =>
    intro k n p hk hp h0 h1
    obtain ⟨k, rfl⟩ := succ_of hk
    simp [laws_heldFactS.l0, mkFactL]
  | succ d ih =>
    intro k n p hk hp h0 h1
    obtain ⟨k, rfl⟩ := succ_of hk
    have e1 : wrap64 (n + 1) = n + 1 := w64 (by omega) (by omega)
    have e2 : wrap64 (n + 1 + 1) = n + 1 + 1 := w64 (by omega) (by omega)
    have e3 : wrap64 (n + 1 + 1 + 1) = n + 1 + 1 + 1 := w64 (by omega) (by omega)
    have e4 : wrap64 (n + 1 + 1 + 1 + 1) = n + 1 + 1 + 1 + 1 := w64 (by omega) (by omega)
    have e5 : wrap64 (n + 1 + 1 + 1 + 1 + 1) = n + 1 + 1 + 1 + 1 + 1 := w64 (by omega) (by omega)
    have e6 : wrap64 (n + 1 + 1 + 1 + 1 + 1 + 1) = n + 1 + 1 + 1 + 1 + 1 + 1 := w64 (by omega) (by omega)
    have ep : wrap64 ((p.length : Int) + 1) = ((p ++ [mkFact n]).length : Nat) := by rw [w64 (by omega) (by omega)]; simp
    simp only [laws_heldFactS.l0, mkFactL, e1, e2, e3, e4, e5, e6, ep, rd_at43]
    rw [if_pos (by simp; omega), if_pos (by omega), if_pos (show (mkFact n).f0 = n from rfl), if_pos (show (mkFact n).f1 = n + 1 from rfl), if_pos (show (mkFact n).f2 = n + 1 + 1 from rfl), if_pos (show (mkFact n).f3.f0 = n + 1 + 1 + 1 from rfl), if_pos (show (mkFact n).f3.f1 = n + 1 + 1 + 1 + 1 from rfl), if_pos (show (mkFact n).f3.f2 = n + 1 + 1 + 1 + 1 + 1 from rfl)]
    have := ih k (n + 1 + 1 + 1 + 1 + 1 + 1) (p ++ [mkFact n]) (by omega) (by simp; omega) (by omega) (by omega)
    rw [List.append_assoc] at this
    refine Eq.trans this (congrArg some ?_)
    omega
theorem heldFactS (d : Nat) (hd : d ≤ 1100000) (k : Nat) (hk : d < k) : laws_heldFactS.f k (mkFactL 1 d) 1 = some (1 + 6 * (d : Int)) := heldFactS_l0 d k 1 [] hk (by simp; omega) (by omega) (by omega)
end Go.Proofs.Ytdjomoogldkpfaa.UMark
end
section
namespace Go.Proofs.Ytdjomoogldkpfaa.Pure
open Go.RowKit Go.Proofs.Ytdjomoogldkpfaa.PAll Go.Proofs.Ytdjomoogldkpfaa.StmtFnExactFactAdd Go.Proofs.YtdjomoogldkpfaaW.PrintWords Go.Proofs.YtdjomoogldkpfaaW.PrintLast Go.Proofs.Ytdjomoogldkpfaa.UFacts Go.Proofs.Ytdjomoogldkpfaa.UMark Go.Proofs.Ytdjomoogldkpfaa.UBase
theorem FnExactFactAdd : StmtFnExactFactAdd.Pure := by
  intro l f h _
  have hl' : l.length ≤ 9223372036854775807 := by simpa [maxLen] using h.1
  refine ⟨3000000, ?_⟩
  generalize hK : 3000000 = K
  unfold laws_FnExactFactAdd.f
  rw [sz_some l 1048576 hl' (by omega) (by omega)]
  simp only [Option.bind_some]
  by_cases h : (1048576 : Int) < l.length
  · rw [if_pos h, if_pos (by omega)]
  · have hn : l.length ≤ 1048576 := by omega
    obtain ⟨K, rfl⟩ := succ_of (show 0 < K by omega)
    have hm : (l.map to43).length = l.length := List.length_map _
    have hz := addB_len (l.map to43) (to43 f)
    have ht : laws_toFact.f f.f0 f.f1 f.f2 f.f3.f0 f.f3.f1 f.f3.f2 = some ((to43 f).f0, (to43 f).f1, (to43 f).f2, (to43 f).f3.f0, (to43 f).f3.f1, (to43 f).f3.f2) := rfl
    rw [if_neg h, if_neg (by omega)]
    simp only [laws_FnExactFactAdd.j0, ht, Option.bind_some]
    rw [toFactS l hn (K + 1) (by omega), toFactS l hn K (by omega)]
    simp only [Option.bind_some]
    rw [specAdd _ (to43 f) (by omega) (K + 1) (by omega), implAdd _ (to43 f) (by omega) (K + 1) (by omega)]
    simp only [Option.bind_some]
    rw [implAdd _ (to43 f) (by omega) K (by omega), UFacts.eqFactS (addB (l.map to43) (to43 f)) (by omega) (K + 1) (by omega)]
    simp only [Option.bind_some]
    rw [UFacts.eqFactS _ (by omega) K (by omega), UFacts.eqFactS (l.map to43) (by omega) (K + 1) (by omega), markFactS _ (by omega) (K + 1) (by omega), markFactS _ (by omega) K (by omega)]
    simp only [Option.bind_some]
    rw [heldFactS _ (by omega) K (by omega)]
    simp only [Option.bind_some, if_true, Bool.not_true, Bool.false_eq_true, if_false]
    rw [if_neg (by omega), if_neg (by omega), if_neg (by omega)]
end Go.Proofs.Ytdjomoogldkpfaa.Pure
end
