/- The law FnExactOuterOf without memory: what its functions come to, and that it answers true for all values of its parameters. -/
import Derived.Test.YtfmlamheflbgdaaDoorVao0
import Derived.Deep.Slices
import Derived.ChangeArms
import Derived.WideShapes
import Derived.Test.YtfmlamheflbgdaaDoorQo5
import Derived.KernelRfl
import Derived.Test.YtfmlamheflbgdaaDoorQo0
import Derived.Test.YtfmlamheflbgdaaDoorQo2
import Derived.Test.YtfmlamheflbgdaaDoorQo1
import Derived.Test.YtfmlamheflbgdaaDoorQo3
import Derived.Test.YtfmlamheflbgdaaDoorQo4
section
namespace Go.Proofs.YtfmlamheflbgdaaDoor.Open
open Go.RowKit Go.Deep Go.WideShapes Go.Proofs.YtfmlamheflbgdaaDoorW.PrintWords
universe u v
structure Opens {α : Type} (P : Program) (t : TypeId) (d : Kd α) (ok : α → Prop) : Prop where
  mk ::
  one : P.cellsOf t = d.sz
  two : ∀ {H : Type} {enc : TypeId × Value → H} {w : World} {base : Nat} {spare : Nat → Bool} {held : Bool} {fuel : Nat} {cs : List Value} {x : DataW H × List MemPlace},
    DataW.trod enc P w base spare held fuel t cs = some x → ∃ a, d.K w a cs ∧ ok a
theorem opens_int {P : Program} {t : TypeId} {k : IntKind} (hu : P.underlying t = some (.int k)) (hc : P.cellsOf t = 1) : Opens P t (Kd.int k) (fun a => (Lit.int k a).wf = true) :=
  ⟨hc, fun h => by
    obtain ⟨n, rfl, _, hw⟩ := DataW.trod_int hu h
    exact ⟨n, rfl, hw⟩⟩
theorem opens_string {P : Program} {t : TypeId} (hu : P.underlying t = some .string) (hc : P.cellsOf t = 1) : Opens P t Kd.string (fun s => s.size ≤ maxLen) :=
  ⟨hc, fun h => by
    obtain ⟨n, rfl, _, hs⟩ := DataW.trod_string hu h
    exact ⟨n, rfl, hs⟩⟩
theorem opens_slice {α : Type} {P : Program} {t e : TypeId} {d : Kd α} {ok : α → Prop} (hu : P.underlying t = some (.slice e)) (hc : P.cellsOf t = 1) (he : Opens P e d ok) :
    Opens P t (Kd.slice e d) (fun l => l.length ≤ maxLen ∧ ∀ x ∈ l, ok x) :=
  ⟨hc, fun {H enc w base spare held fuel cs x} h => by
    rcases open_slice hu h with ⟨rfl, _⟩ | ⟨a, len, cap, m, n, D, Pl, rfl, hb, hl, hm, hmm, _, hi⟩
    · exact ⟨[], ⟨none, 0, rfl, Nat.le_refl _, Kd.C_nil d w⟩, Nat.zero_le _, fun y hy => by simp at hy⟩
    · have hle : len ≤ m := by
        rw [hmm]
        split
        · exact hl
        · exact Nat.le_refl _
      have key : ∀ j, j ≤ len → ∃ xs : List α, xs.length = j ∧ (∀ y ∈ xs, ok y) ∧ ∀ i p, xs[i]? = some p → ∃ c, c.length = d.sz ∧ d.K w p c ∧ ∀ q u, c[q]? = some u → w.cell? (a.add (i * d.sz + q)) = some u := by
        intro j
        induction j with
        | zero => exact fun _ => ⟨[], rfl, fun y hy => by simp at hy, fun i p hp => by simp at hp⟩
        | succ j ih =>
          intro hj
          obtain ⟨xs, hx, ho, hg⟩ := ih (by omega)
          obtain ⟨cs', hcs, ht⟩ := hi j (by omega)
          obtain ⟨y, hK, hy⟩ := he.two ht
          rw [he.one] at hcs
          obtain ⟨_, hcl, hat⟩ := World.cells?_some hcs
          refine ⟨xs ++ [y], by simp [hx], fun z hz => ?_, fun i p hp => ?_⟩
          · rcases List.mem_append.1 hz with hz | hz
            · exact ho z hz
            · rw [List.mem_singleton.1 hz]
              exact hy
          · rcases Nat.lt_or_ge i xs.length with hi' | hi'
            · rw [List.getElem?_append_left hi'] at hp
              exact hg i p hp
            · rw [List.getElem?_append_right hi'] at hp
              have hi0 : i - xs.length = 0 := by
                rcases Nat.eq_zero_or_pos (i - xs.length) with h0 | h0
                · exact h0
                · rw [List.getElem?_eq_none (by simp; omega)] at hp
                  cases hp
              rw [hi0] at hp
              have hp' : y = p := by simpa using hp
              subst hp'
              have hij : i = j := by omega
              subst hij
              refine ⟨cs', hcl, hK, fun q u hq => ?_⟩
              have hql : q < d.sz := by
                rcases Nat.lt_or_ge q cs'.length with h0 | h0
                · omega
                · rw [List.getElem?_eq_none h0] at hq
                  cases hq
              have := hat q hql
              rw [hq] at this
              rw [← Go.Deep.add_add]
              exact this
      obtain ⟨xs, hx, ho, hg⟩ := key len (Nat.le_refl _)
      have hlm : len ≤ 9223372036854775807 := by
        have : cap ≤ maxLen := hm
        simp only [maxLen] at this
        omega
      refine ⟨xs, ⟨some a, cap, by rw [hx], by omega, ⟨rfl, by omega, fun _ => ⟨a, rfl, hg⟩⟩⟩, by omega, ho⟩⟩
structure OpensAt {α : Type} (P : Program) (fs : List Field) (off : Nat) (d : Kd α) (ok : α → Prop) : Prop where
  mk ::
  at_ : ∀ {H : Type} {enc : TypeId × Value → H} {w : World} {base : Nat} {spare : Nat → Bool} {held : Bool} {n : Nat} {cs : List Value}, cs.length = off + d.sz →
    (∀ f ∈ fs, ∃ x, DataW.trod enc P w base spare held n f.type ((cs.drop f.offset).take (P.cellsOf f.type)) = some x) → ∃ a, d.K w a (cs.drop off) ∧ ok a
theorem opensAt_one {α : Type} {P : Program} {f : Field} {off : Nat} {d : Kd α} {ok : α → Prop} (ho : f.offset = off) (he : Opens P f.type d ok) : OpensAt P [f] off d ok := by
  refine ⟨fun {H enc w base spare held n cs} hl hf => ?_⟩
  obtain ⟨x, hx⟩ := hf f (List.mem_singleton.2 rfl)
  rw [ho, he.one, List.take_of_length_le (by rw [List.length_drop]; omega)] at hx
  exact he.two hx
theorem opensAt_cons {α β : Type} {P : Program} {f : Field} {fs : List Field} {off : Nat} {d : Kd α} {d' : Kd β} {ok : α → Prop} {ok' : β → Prop} (ho : f.offset = off) (he : Opens P f.type d ok) (hr : OpensAt P fs (off + d.sz) d' ok') :
    OpensAt P (f :: fs) off (Kd.pair d d') (fun p => ok p.1 ∧ ok' p.2) := by
  refine ⟨fun {H enc w base spare held n cs} hl hf => ?_⟩
  have hl' : cs.length = off + (d.sz + d'.sz) := hl
  obtain ⟨x, hx⟩ := hf f List.mem_cons_self
  rw [ho, he.one] at hx
  obtain ⟨a, ha, hoa⟩ := he.two hx
  obtain ⟨b, hb, hob⟩ := hr.at_ (cs := cs) (by omega) (fun g hg => hf g (List.mem_cons_of_mem _ hg))
  refine ⟨(a, b), ⟨_, _, ?_, ha, hb⟩, hoa, hob⟩
  have e : cs.drop (off + d.sz) = (cs.drop off).drop d.sz := by rw [List.drop_drop]
  rw [e, List.take_append_drop]
theorem opens_struct {α β : Type} {P : Program} {t : TypeId} {fs : Array Field} {d : Kd α} {ok : α → Prop} {f : β → α} (g : α → β) (hu : P.underlying t = some (.struct fs)) (hc : P.cellsOf t = d.sz) (hg : ∀ a, f (g a) = a) (h : OpensAt P fs.toList 0 d ok) :
    Opens P t (Kd.iso d f) (fun b => ok (f b)) :=
  ⟨hc, fun {H enc w base spare held fuel cs x} ht => by
    obtain ⟨xs, n, _, _, hl, hxl, hf⟩ := DataW.trod_struct hu ht
    obtain ⟨a, ha, hoa⟩ := h.at_ (enc := enc) (w := w) (base := base) (spare := spare) (held := held) (n := n) (cs := cs) (by rw [hl, hc]; omega) (fun q hq => by
      obtain ⟨i, hi, he⟩ := List.mem_iff_getElem.1 hq
      have hi' : fs[i]? = some q := by
        rw [← he]
        simp
      have hh := hf i q hi'
      have : i < xs.length := by
        rw [hxl]
        simpa using hi
      exact ⟨_, hh.trans (List.getElem?_eq_getElem this)⟩)
    refine ⟨g a, ?_, ?_⟩
    · show d.K w (f (g a)) cs
      rw [hg]
      simpa using ha
    · show ok (f (g a))
      rw [hg]
      exact hoa⟩
section args
variable {α : Type} {P : Program} {t : TypeId} {d : Kd α} {ok : α → Prop} {okl : List α → Prop} {H : Type} {enc : TypeId × Value → H} {w : World} {base : Nat} {spare : Nat → Bool} {held : Bool} {v : Value} {dt : DataW H} {p : List MemPlace} {r : Reach} {b0 : Nat}
theorem arg_slice {e : TypeId} (hu : P.underlying t = some (.slice e)) (ho : Opens P t (Kd.slice e d) okl) (hv : Value.okWide P w r b0 t v) (h : DataW.Trod enc P w base spare held t v dt p) :
    ∃ (A : Option Addr) (c : Nat) (l : List α), v = .slice A l.length c ∧ l.length ≤ c ∧ d.C w A l.length l ∧ okl l := by
  obtain ⟨a, len, cap, rfl⟩ := okWide_slice hu hv
  obtain ⟨fuel, hf⟩ := h
  obtain ⟨l, ⟨A, c, he, hl, hC⟩, hok⟩ := ho.two hf
  have he' : [Value.slice a len cap] = [.slice A l.length c] := he
  exact ⟨A, c, l, (List.cons.inj he').1, hl, hC, hok⟩
end args
end Go.Proofs.YtfmlamheflbgdaaDoor.Open
end
section
namespace Go.Proofs.YtfmlamheflbgdaaDoor.StmtFnExactOuterOf
open Go.RowKit Go.Proofs.YtfmlamheflbgdaaDoor.PAll Go.Proofs.YtfmlamheflbgdaaDoorW.PrintWords Go.Proofs.YtfmlamheflbgdaaDoorW.PrintLast Go.Proofs.YtfmlamheflbgdaaDoor.Open
def ok62 (x : S62) : Prop := (Lit.int .i64 x.f0).wf = true ∧ (Lit.int .i64 x.f1).wf = true ∧ (Lit.int .i64 x.f2).wf = true ∧ (Lit.int .i64 x.f3).wf = true ∧ (Lit.int .i64 x.f4).wf = true ∧ x.f5.size ≤ maxLen ∧ x.f6.size ≤ maxLen
theorem opens62 : Opens Tryd.prog 62 k62 ok62 := opens_struct (d := (Kd.pair (Kd.int .i64) (Kd.pair (Kd.int .i64) (Kd.pair (Kd.int .i64) (Kd.pair (Kd.int .i64) (Kd.pair (Kd.int .i64) (Kd.pair Kd.string Kd.string))))))) (f := (fun x : S62 => (x.f0, x.f1, x.f2, x.f3, x.f4, x.f5, x.f6))) (fun a => ⟨a.1, a.2.1, a.2.2.1, a.2.2.2.1, a.2.2.2.2.1, a.2.2.2.2.2.1, a.2.2.2.2.2.2⟩) Tryd.underlying62 (by kernel_rfl) (fun _ => rfl) (opensAt_cons rfl (opens_int Tryd.underlying3 (by kernel_rfl)) (opensAt_cons rfl (opens_int Tryd.underlying3 (by kernel_rfl)) (opensAt_cons rfl (opens_int Tryd.underlying3 (by kernel_rfl)) (opensAt_cons rfl (opens_int Tryd.underlying3 (by kernel_rfl)) (opensAt_cons rfl (opens_int Tryd.underlying3 (by kernel_rfl)) (opensAt_cons rfl (opens_string Tryd.underlying9 (by kernel_rfl)) (opensAt_one rfl (opens_string Tryd.underlying9 (by kernel_rfl)))))))))
def Pure : Prop := ∀ (l0 : List (S62)) (a1 : Int), (l0.length ≤ maxLen ∧ ∀ y ∈ l0, ok62 y) → (Lit.int .i64 a1).wf = true → ∃ k, laws_FnExactOuterOf.f k l0 a1 = some true
end Go.Proofs.YtfmlamheflbgdaaDoor.StmtFnExactOuterOf
end
section
namespace Go.Proofs.YtfmlamheflbgdaaDoor.UBase
open Go.RowKit Go.Proofs.YtfmlamheflbgdaaDoorW.PrintWords
theorem w64 {x : Int} (h0 : -9223372036854775808 ≤ x) (h1 : x ≤ 9223372036854775807) : wrap64 x = x := by
  unfold wrap64
  omega
theorem succ_of {k n : Nat} (h : n < k) : ∃ m, k = m + 1 := ⟨k - 1, by omega⟩
theorem set_getD_eq {α : Type} (l : List α) (i : Nat) (a d : α) (h : i < l.length) : (l.set i a).getD i d = a := by
  simp [List.getD, h]
theorem set_getD_ne {α : Type} (l : List α) (i j : Nat) (a d : α) (h : i ≠ j) : (l.set i a).getD j d = l.getD j d := by
  simp [List.getD, h]
theorem ext_getD {α : Type} {l m : List α} (d : α) (hl : l.length = m.length) (h : ∀ i, i < l.length → l.getD i d = m.getD i d) : l = m := by
  apply List.ext_getElem hl
  intro i h1 h2
  have := h i h1
  simpa [List.getD, List.getElem?_eq_getElem h1, List.getElem?_eq_getElem h2] using this
end Go.Proofs.YtfmlamheflbgdaaDoor.UBase
end
section
namespace Go.Proofs.YtfmlamheflbgdaaDoor.UNode
open Go.RowKit Go.Proofs.YtfmlamheflbgdaaDoor.PAll Go.Proofs.YtfmlamheflbgdaaDoorW.PrintWords Go.Proofs.YtfmlamheflbgdaaDoorW.PrintLast Go.Proofs.YtfmlamheflbgdaaDoor.UBase
abbrev Nd := S55
abbrev LNd := S62
def nd (l : List Nd) (i : Nat) : Nd := l.getD i z55
theorem rd_nd (l : List Nd) (i : Nat) : rd_T55 l (i : Int) = nd l i := by
  unfold rd_T55 nd
  rw [Int.toNat_natCast]
theorem rd_ndI (l : List Nd) (i : Int) : rd_T55 l i = nd l i.toNat := rfl
def arityN (k : Int) : Nat :=
  if k = 3 ∨ k = 10 ∨ k = 11 ∨ k = 15 ∨ k = 16 ∨ k = 18 then 1 else if k = 4 ∨ k = 5 ∨ k = 6 ∨ k = 8 ∨ k = 9 ∨ k = 13 ∨ k = 17 ∨ k = 19 then 2 else if k = 7 ∨ k = 14 then 3 else 0
theorem arity_le (k : Int) : arityN k ≤ 3 := by
  unfold arityN
  split
  · omega
  · split
    · omega
    · split <;> omega
theorem impl_arity (k : Nat) (hk : 2 ≤ k) (a : Int) : impl_Arity.f k a = some (arityN a : Int) := by
  obtain ⟨k, rfl⟩ : ∃ m, k = m + 2 := ⟨k - 2, by omega⟩
  unfold impl_Arity.f arityN
  simp only [impl_Arity.j0, impl_Arity.j1]
  by_cases h3 : a = 3
  · subst h3; simp
  by_cases h10 : a = 10
  · subst h10; simp
  by_cases h11 : a = 11
  · subst h11; simp
  by_cases h15 : a = 15
  · subst h15; simp
  by_cases h16 : a = 16
  · subst h16; simp
  by_cases h18 : a = 18
  · subst h18; simp
  by_cases h4 : a = 4
  · subst h4; simp
  by_cases h5 : a = 5
  · subst h5; simp
  by_cases h6 : a = 6
  · subst h6; simp
  by_cases h8 : a = 8
  · subst h8; simp
  by_cases h9 : a = 9
  · subst h9; simp
  by_cases h13 : a = 13
  · subst h13; simp
  by_cases h17 : a = 17
  · subst h17; simp
  by_cases h19 : a = 19
  · subst h19; simp
  by_cases h7 : a = 7
  · subst h7; simp
  by_cases h14 : a = 14
  · subst h14; simp
  simp [h3, h10, h11, h15, h16, h18, h4, h5, h6, h8, h9, h13, h17, h19, h7, h14]
theorem spec_arity (k : Nat) (hk : 2 ≤ k) (a : Int) : spec_Arity.f k a = some (arityN a : Int) := by
  obtain ⟨k, rfl⟩ : ∃ m, k = m + 2 := ⟨k - 2, by omega⟩
  rw [← impl_arity (k + 2) (by omega) a]
  unfold impl_Arity.f spec_Arity.f
  simp only [impl_Arity.j0, impl_Arity.j1, spec_Arity.j0, spec_Arity.j1]
def namesN (k : Int) : Nat := if k = 1 ∨ k = 3 ∨ k = 5 ∨ k = 19 then 1 else if k = 6 ∨ k = 14 then 2 else 0
theorem impl_names (k : Nat) (hk : 1 ≤ k) (a : Int) : impl_namesOf.f k a = some (namesN a : Int) := by
  obtain ⟨k, rfl⟩ := succ_of (show 0 < k by omega)
  unfold impl_namesOf.f namesN
  simp only [impl_namesOf.j0]
  by_cases h1 : a = 1
  · subst h1; simp
  by_cases h3 : a = 3
  · subst h3; simp
  by_cases h5 : a = 5
  · subst h5; simp
  by_cases h19 : a = 19
  · subst h19; simp
  by_cases h6 : a = 6
  · subst h6; simp
  by_cases h14 : a = 14
  · subst h14; simp
  simp [h1, h3, h5, h19, h6, h14]
theorem spec_names (k : Nat) (hk : 1 ≤ k) (a : Int) : spec_l3Names.f k a = some (namesN a : Int) := by
  obtain ⟨k, rfl⟩ := succ_of (show 0 < k by omega)
  rw [← impl_names (k + 1) (by omega) a]
  unfold impl_namesOf.f spec_l3Names.f
  simp only [impl_namesOf.j0, spec_l3Names.j0]
def kids (n : Nd) : List Int := [n.f1, n.f2, n.f3].take (arityN n.f0)
theorem kids_len (n : Nd) : (kids n).length = arityN n.f0 := by
  unfold kids
  have := arity_le n.f0
  simp
  omega
theorem impl_kids (k : Nat) (hk : 2 ≤ k) (n : Nd) : impl_Kids.f k n.f0 n.f1 n.f2 n.f3 n.f4 n.f5 n.f6 = some (kids n) := by
  unfold impl_Kids.f kids
  rw [impl_arity k hk]
  have := arity_le n.f0
  simp only [Option.bind_some, List.length_cons, List.length_nil]
  rw [if_pos (by omega), if_pos (by omega), if_pos (by omega), Int.toNat_natCast]
theorem spec_kids (k : Nat) (hk : 2 ≤ k) (n : Nd) : spec_Kids.f k n.f0 n.f1 n.f2 n.f3 n.f4 n.f5 n.f6 = some (kids n) := by
  unfold spec_Kids.f kids
  rw [spec_arity k hk]
  have := arity_le n.f0
  simp only [Option.bind_some, List.length_cons, List.length_nil]
  rw [if_pos (by omega), if_pos (by omega), Int.toNat_natCast]
def inB (a b c : Int) : Bool := decide (b ≤ a) && decide (a ≤ c)
theorem impl_inB (a b c : Int) : impl_in.f a b c = some (inB a b c) := by
  unfold impl_in.f inB
  by_cases h : b ≤ a
  · rw [if_pos h]; simp [h]
  · rw [if_neg h]; simp [h]
theorem spec_inB (a b c : Int) : spec_l1In.f a b c = some (inB a b c) := by
  unfold spec_l1In.f inB
  by_cases h : b ≤ a
  · rw [if_pos h]; simp [h]
  · rw [if_neg h]; simp [h]
def wordFrom (s : ByteArray) : Nat → Nat → Bool
  | 0, _ => inB (s.size : Int) 1 8
  | d + 1, i => if inB (bt s i) 97 122 = true then wordFrom s d (i + 1) else false
def wordB (s : ByteArray) : Bool := wordFrom s s.size 0
theorem impl_word_l0 (s : ByteArray) (hn : s.size ≤ 9223372036854775806) (d : Nat) : ∀ (k i : Nat), i + d = s.size → d < k → impl_IsWord.l0 k s i = some (wordFrom s d i) := by
  induction d with
  | zero =>
    intro k i hi hk
    obtain ⟨k, rfl⟩ := succ_of hk
    simp only [impl_IsWord.l0, wordFrom]
    rw [if_neg (by omega), impl_inB]
    rfl
  | succ d ih =>
    intro k i hi hk
    obtain ⟨k, rfl⟩ := succ_of hk
    simp only [impl_IsWord.l0, wordFrom]
    rw [if_pos (by omega), if_pos (by omega), w64 (by omega) (by omega)]
    unfold inB
    by_cases h1 : bt s i < 97
    · rw [if_pos h1, if_neg (by simp; omega)]
    · by_cases h2 : bt s i > 122
      · rw [if_neg h1, if_pos h2, if_neg (by simp; omega)]
      · rw [if_neg h1, if_neg h2, if_pos (by simp; omega)]
        exact ih k (i + 1) (by omega) (by omega)
theorem impl_word (s : ByteArray) (hn : s.size ≤ 9223372036854775806) (k : Nat) (hk : s.size < k) : impl_IsWord.f k s = some (wordB s) := by
  unfold impl_IsWord.f wordB
  exact impl_word_l0 s hn s.size k 0 (by omega) hk
theorem spec_word_l0 (s : ByteArray) (hn : s.size ≤ 9223372036854775806) (d : Nat) : ∀ (k i : Nat), i + d = s.size → d < k → spec_IsWord.l0 k s i = some (wordFrom s d i) := by
  induction d with
  | zero =>
    intro k i hi hk
    obtain ⟨k, rfl⟩ := succ_of hk
    simp only [spec_IsWord.l0, wordFrom]
    rw [if_neg (by omega), spec_inB]
    rfl
  | succ d ih =>
    intro k i hi hk
    obtain ⟨k, rfl⟩ := succ_of hk
    simp only [spec_IsWord.l0, wordFrom]
    rw [if_pos (by omega), if_pos (by omega), w64 (by omega) (by omega)]
    have e : spec_l2Letter.f (bt s i) = some (inB (bt s i) 97 122) := spec_inB _ _ _
    rw [e]
    simp only [Option.bind_some]
    by_cases h : inB (bt s i) 97 122 = true
    · rw [if_pos h, if_pos h]
      exact ih k (i + 1) (by omega) (by omega)
    · rw [if_neg h, if_neg h]
theorem spec_word (s : ByteArray) (hn : s.size ≤ 9223372036854775806) (k : Nat) (hk : s.size < k) : spec_IsWord.f k s = some (wordB s) := by
  unfold spec_IsWord.f wordB
  exact spec_word_l0 s hn s.size k 0 (by omega) hk
def keysL : List ByteArray := [⟨#[102, 117, 110]⟩, ⟨#[97, 112, 112]⟩, ⟨#[108, 101, 116]⟩, ⟨#[114, 101, 99]⟩, ⟨#[105, 102]⟩, ⟨#[97, 100, 100]⟩, ⟨#[115, 117, 98]⟩, ⟨#[108, 101, 115, 115]⟩, ⟨#[115, 97, 109, 101]⟩, ⟨#[112, 97, 105, 114]⟩, ⟨#[102, 115, 116]⟩, ⟨#[115, 110, 100]⟩, ⟨#[110, 105, 108]⟩, ⟨#[99, 111, 110, 115]⟩, ⟨#[109, 97, 116, 99, 104]⟩, ⟨#[114, 101, 102]⟩, ⟨#[103, 101, 116]⟩, ⟨#[115, 101, 116]⟩, ⟨#[114, 97, 105, 115, 101]⟩, ⟨#[116, 114, 121]⟩]
theorem keys_len : keysL.length = 20 := rfl
theorem split_keys : strings_Split.f (⟨#[102, 117, 110, 32, 97, 112, 112, 32, 108, 101, 116, 32, 114, 101, 99, 32, 105, 102, 32, 97, 100, 100, 32, 115, 117, 98, 32, 108, 101, 115, 115, 32, 115, 97, 109, 101, 32, 112, 97, 105, 114, 32, 102, 115, 116, 32, 115, 110, 100, 32, 110, 105, 108, 32, 99, 111, 110, 115, 32, 109, 97, 116, 99, 104, 32, 114, 101, 102, 32, 103, 101, 116, 32, 115, 101, 116, 32, 114, 97, 105, 115, 101, 32, 116, 114, 121]⟩ : ByteArray) (⟨#[32]⟩ : ByteArray) = some keysL := by kernel_rfl
theorem spec_keys : spec_l3Keys.f = some keysL := rfl
def keyFrom (s : ByteArray) : Nat → Nat → Bool
  | 0, _ => false
  | d + 1, i => if (keysL.getD i ByteArray.empty).toList = s.toList then true else keyFrom s d (i + 1)
def keyB (s : ByteArray) : Bool := keyFrom s 20 0
theorem rdOf_nat {α : Type} (d : α) (l : List α) (i : Nat) : rdOf d l (i : Int) = l.getD i d := by
  unfold rdOf
  rw [Int.toNat_natCast]
theorem impl_key_l0 (s : ByteArray) (d : Nat) : ∀ (k i : Nat), i + d = 20 → d < k → impl_IsKey.l0 k s keysL 20 i = some (keyFrom s d i) := by
  induction d with
  | zero =>
    intro k i hi hk
    obtain ⟨k, rfl⟩ := succ_of hk
    simp only [impl_IsKey.l0, keyFrom]
    rw [if_neg (by omega)]
  | succ d ih =>
    intro k i hi hk
    obtain ⟨k, rfl⟩ := succ_of hk
    simp only [impl_IsKey.l0, keyFrom]
    rw [if_pos (by omega), if_pos (by omega), if_pos (by rw [keys_len]; omega), w64 (by omega) (by omega), rdOf_nat]
    by_cases h : (keysL.getD i ByteArray.empty).toList = s.toList
    · rw [if_pos h, if_pos h]
    · rw [if_neg h, if_neg h]
      exact ih k (i + 1) (by omega) (by omega)
theorem impl_key (s : ByteArray) (k : Nat) (hk : 20 < k) : impl_IsKey.f k s = some (keyB s) := by
  unfold impl_IsKey.f keyB
  rw [split_keys]
  exact impl_key_l0 s 20 k 0 (by omega) hk
theorem spec_key_l0 (s : ByteArray) (d : Nat) : ∀ (k i : Nat), i + d = 20 → d < k → spec_IsKey.l0 k s keysL i = some (keyFrom s d i) := by
  induction d with
  | zero =>
    intro k i hi hk
    obtain ⟨k, rfl⟩ := succ_of hk
    simp only [spec_IsKey.l0, keyFrom]
    rw [if_neg (by rw [keys_len]; omega)]
  | succ d ih =>
    intro k i hi hk
    obtain ⟨k, rfl⟩ := succ_of hk
    simp only [spec_IsKey.l0, keyFrom]
    rw [if_pos (by rw [keys_len]; omega), if_pos (by omega), w64 (by omega) (by omega), rdOf_nat]
    by_cases h : (keysL.getD i ByteArray.empty).toList = s.toList
    · rw [if_pos h, if_pos h]
    · rw [if_neg h, if_neg h]
      exact ih k (i + 1) (by omega) (by omega)
theorem spec_key (s : ByteArray) (k : Nat) (hk : 20 < k) : spec_IsKey.f k s = some (keyB s) := by
  unfold spec_IsKey.f keyB
  rw [spec_keys]
  exact spec_key_l0 s 20 k 0 (by omega) hk
def nameB (s : ByteArray) : Bool := wordB s && !keyB s
theorem impl_name (s : ByteArray) (hn : s.size ≤ 9223372036854775806) (k : Nat) (hk : s.size + 20 < k) : impl_isName.f k s = some (nameB s) := by
  unfold impl_isName.f nameB
  rw [impl_word s hn k (by omega)]
  simp only [Option.bind_some]
  by_cases h : wordB s = true
  · rw [if_pos h, impl_key s k (by omega), h]
    simp
  · rw [if_neg h]
    simp [h]
theorem spec_name (s : ByteArray) (hn : s.size ≤ 9223372036854775806) (k : Nat) (hk : s.size + 20 < k) : spec_l3Name.f k s = some (nameB s) := by
  unfold spec_l3Name.f nameB
  rw [spec_word s hn k (by omega)]
  simp only [Option.bind_some]
  by_cases h : wordB s = true
  · rw [if_pos h, spec_key s k (by omega), h]
    simp
  · rw [if_neg h]
    simp [h]
theorem nameB_empty {s : ByteArray} (h : s.toList = []) : nameB s = false := by
  have hs : s.size = 0 := by
    have e := congrArg List.length h
    rw [Lib.toList_data] at e
    simpa using e
  unfold nameB wordB
  rw [hs]
  simp [wordFrom, inB, hs]
def fitsB (s : ByteArray) (b : Bool) : Bool := if b = true then nameB s else (s.toList == ([] : List UInt8))
theorem impl_fits (s : ByteArray) (b : Bool) (hn : s.size ≤ 9223372036854775806) (k : Nat) (hk : s.size + 20 < k) : impl_nameFits.f k s b = some (fitsB s b) := by
  unfold impl_nameFits.f fitsB
  cases b
  · simp
  · simp [impl_name s hn k hk]
def restB (n : Nd) : Bool := if n.f0 = 2 then inB n.f4 0 65535 else if n.f0 = 8 then inB n.f4 0 3 else n.f4 == 0
def noKids (n : Nd) : Bool := (decide (1 ≤ arityN n.f0) || n.f1 == 0) && ((decide (2 ≤ arityN n.f0) || n.f2 == 0) && (decide (3 ≤ arityN n.f0) || n.f3 == 0))
def fieldsB (n : Nd) : Bool := inB n.f0 1 19 && (fitsB n.f5 (decide (0 < namesN n.f0)) && (fitsB n.f6 (decide (1 < namesN n.f0)) && (noKids n && restB n)))
end Go.Proofs.YtfmlamheflbgdaaDoor.UNode
end
section
namespace Go.Proofs.YtfmlamheflbgdaaDoor.UNode
open Go.RowKit Go.Proofs.YtfmlamheflbgdaaDoor.PAll Go.Proofs.YtfmlamheflbgdaaDoorW.PrintWords Go.Proofs.YtfmlamheflbgdaaDoorW.PrintLast Go.Proofs.YtfmlamheflbgdaaDoor.UBase
def small (n : Nd) : Prop := n.f5.size ≤ 1048576 ∧ n.f6.size ≤ 1048576
theorem rest_impl (n : Nd) : (if n.f0 = 2 then ((impl_in.f n.f4 0 65535).bind fun t => some t) else (if n.f0 = 8 then ((impl_in.f n.f4 0 3).bind fun t => some t) else (some (n.f4 == 0)))) = some (restB n) := by
  unfold restB
  simp only [impl_inB, Option.bind_some]
  by_cases h2 : n.f0 = 2
  · rw [if_pos h2, if_pos h2]
  · rw [if_neg h2, if_neg h2]
    by_cases h8 : n.f0 = 8
    · rw [if_pos h8, if_pos h8]
    · rw [if_neg h8, if_neg h8]
theorem rest_spec (n : Nd) : (if n.f0 = 2 then ((spec_l1In.f n.f4 0 65535).bind fun t => some t) else (if n.f0 = 8 then ((spec_l1In.f n.f4 0 3).bind fun t => some t) else (some (n.f4 == 0)))) = some (restB n) := rest_impl n
def okKid (a : Nat) (j : Nat) (x : Int) : Bool := decide (j < a) || x == 0
theorem fields_l0 (n : Nd) (k : Nat) (hk : 8 ≤ k) : impl_fieldsOk.l0 k [n.f1, n.f2, n.f3] 3 0 n.f0 n.f1 n.f2 n.f3 n.f4 n.f5 n.f6 = some (noKids n && restB n) := by
  have e0 : rd [n.f1, n.f2, n.f3] 0 = n.f1 := rfl
  have e1 : rd [n.f1, n.f2, n.f3] 1 = n.f2 := rfl
  have e2 : rd [n.f1, n.f2, n.f3] 2 = n.f3 := rfl
  have f0 : wrap64 (0 + 1) = 1 := w64 (by omega) (by omega)
  have f1 : wrap64 (1 + 1) = 2 := w64 (by omega) (by omega)
  have f2 : wrap64 (2 + 1) = 3 := w64 (by omega) (by omega)
  have ha := arity_le n.f0
  have last : ∀ m, 1 ≤ m → impl_fieldsOk.l0 m [n.f1, n.f2, n.f3] 3 3 n.f0 n.f1 n.f2 n.f3 n.f4 n.f5 n.f6 = some (restB n) := by
    intro m hm
    obtain ⟨m, rfl⟩ := succ_of (show 0 < m by omega)
    simp only [impl_fieldsOk.l0]
    rw [if_neg (by omega)]
    exact rest_impl n
  have third : ∀ m, 3 ≤ m → impl_fieldsOk.l0 m [n.f1, n.f2, n.f3] 3 2 n.f0 n.f1 n.f2 n.f3 n.f4 n.f5 n.f6 = some (okKid (arityN n.f0) 2 n.f3 && restB n) := by
    intro m hm
    obtain ⟨m, rfl⟩ := succ_of (show 0 < m by omega)
    simp only [impl_fieldsOk.l0]
    rw [if_pos (by omega), if_pos (by omega), if_pos (by simp), impl_arity m (by omega)]
    simp only [Option.bind_some, e2]
    rw [f2, last m (by omega)]
    unfold okKid
    by_cases h : (2 : Int) ≥ (arityN n.f0 : Int)
    · rw [if_pos h]
      by_cases hz : n.f3 = 0
      · rw [if_pos hz]; simp [hz]
      · rw [if_neg hz]
        have : ¬ 2 < arityN n.f0 := by omega
        simp [this, hz]
    · rw [if_neg h]
      have : 2 < arityN n.f0 := by omega
      simp [this]
  have second : ∀ m, 4 ≤ m → impl_fieldsOk.l0 m [n.f1, n.f2, n.f3] 3 1 n.f0 n.f1 n.f2 n.f3 n.f4 n.f5 n.f6 = some (okKid (arityN n.f0) 1 n.f2 && (okKid (arityN n.f0) 2 n.f3 && restB n)) := by
    intro m hm
    obtain ⟨m, rfl⟩ := succ_of (show 0 < m by omega)
    simp only [impl_fieldsOk.l0]
    rw [if_pos (by omega), if_pos (by omega), if_pos (by simp), impl_arity m (by omega)]
    simp only [Option.bind_some, e1]
    rw [f1, third m (by omega)]
    generalize (okKid (arityN n.f0) 2 n.f3 && restB n) = z
    unfold okKid
    by_cases h : (1 : Int) ≥ (arityN n.f0 : Int)
    · rw [if_pos h]
      by_cases hz : n.f2 = 0
      · rw [if_pos hz]; simp [hz]
      · rw [if_neg hz]
        have : ¬ 1 < arityN n.f0 := by omega
        simp [this, hz]
    · rw [if_neg h]
      have : 1 < arityN n.f0 := by omega
      simp [this]
  have en : (noKids n && restB n) = (okKid (arityN n.f0) 0 n.f1 && (okKid (arityN n.f0) 1 n.f2 && (okKid (arityN n.f0) 2 n.f3 && restB n))) := by
    unfold noKids okKid
    have d0 : decide (1 ≤ arityN n.f0) = decide (0 < arityN n.f0) := decide_eq_decide.2 (by omega)
    have d1 : decide (2 ≤ arityN n.f0) = decide (1 < arityN n.f0) := decide_eq_decide.2 (by omega)
    have d2 : decide (3 ≤ arityN n.f0) = decide (2 < arityN n.f0) := decide_eq_decide.2 (by omega)
    rw [d0, d1, d2, Bool.and_assoc, Bool.and_assoc]
  rw [en]
  obtain ⟨m, rfl⟩ := succ_of (show 0 < k by omega)
  simp only [impl_fieldsOk.l0]
  rw [if_pos (by omega), if_pos (by omega), if_pos (by simp), impl_arity m (by omega)]
  simp only [Option.bind_some, e0]
  rw [f0, second m (by omega)]
  generalize (okKid (arityN n.f0) 1 n.f2 && (okKid (arityN n.f0) 2 n.f3 && restB n)) = z
  unfold okKid
  by_cases h : (0 : Int) ≥ (arityN n.f0 : Int)
  · rw [if_pos h]
    by_cases hz : n.f1 = 0
    · rw [if_pos hz]; simp [hz]
    · rw [if_neg hz]
      have : ¬ 0 < arityN n.f0 := by omega
      simp [this, hz]
  · rw [if_neg h]
    have : 0 < arityN n.f0 := by omega
    simp [this]
theorem impl_fields (n : Nd) (hs : small n) (k : Nat) (hk : 1048600 ≤ k) : impl_fieldsOk.f k n.f0 n.f1 n.f2 n.f3 n.f4 n.f5 n.f6 = some (fieldsB n) := by
  obtain ⟨k, rfl⟩ := succ_of (show 0 < k by omega)
  obtain ⟨h5, h6⟩ := hs
  have j1 : impl_fieldsOk.j0 (k + 1) true n.f0 n.f1 n.f2 n.f3 n.f4 n.f5 n.f6 = some false := by
    simp only [impl_fieldsOk.j0]
    rw [if_pos trivial]
  have j2 : impl_fieldsOk.j0 (k + 1) false n.f0 n.f1 n.f2 n.f3 n.f4 n.f5 n.f6 = some (noKids n && restB n) := by
    simp only [impl_fieldsOk.j0]
    rw [if_neg (by simp)]
    exact fields_l0 n k (by omega)
  unfold impl_fieldsOk.f fieldsB
  rw [impl_inB]
  simp only [Option.bind_some]
  by_cases h0 : inB n.f0 1 19 = true
  · rw [if_pos h0, impl_names _ (by omega), h0]
    simp only [Option.bind_some]
    have e1 : decide ((namesN n.f0 : Int) > 0) = decide (0 < namesN n.f0) := decide_eq_decide.2 (by omega)
    have e2 : decide ((namesN n.f0 : Int) > 1) = decide (1 < namesN n.f0) := decide_eq_decide.2 (by omega)
    rw [e1, e2, impl_fits _ _ (by omega) _ (by omega)]
    simp only [Option.bind_some]
    by_cases h1 : fitsB n.f5 (decide (0 < namesN n.f0)) = true
    · rw [if_pos h1, impl_fits _ _ (by omega) _ (by omega), h1]
      simp only [Option.bind_some]
      cases h2 : fitsB n.f6 (decide (1 < namesN n.f0))
      · rw [Bool.not_false, j1]; simp
      · rw [Bool.not_true, j2]; simp
    · rw [if_neg h1, j1]
      simp [h1]
  · rw [if_neg h0, j1]
    simp [h0]
theorem spec_fields (n : Nd) (hs : small n) (k : Nat) (hk : 1048600 ≤ k) : spec_l3Fields.f k n.f0 n.f1 n.f2 n.f3 n.f4 n.f5 n.f6 = some (fieldsB n) := by
  obtain ⟨k, rfl⟩ : ∃ m, k = m + 2 := ⟨k - 2, by omega⟩
  obtain ⟨h5, h6⟩ := hs
  have j1t : spec_l3Fields.j1 (k + 1) true n.f0 n.f1 n.f2 n.f3 n.f4 n.f5 n.f6 = some false := by
    simp only [spec_l3Fields.j1]
    rw [if_pos trivial]
  have j1f : spec_l3Fields.j1 (k + 1) false n.f0 n.f1 n.f2 n.f3 n.f4 n.f5 n.f6 = some (restB n) := by
    simp only [spec_l3Fields.j1]
    rw [if_neg (by simp)]
    exact rest_spec n
  have j0t : spec_l3Fields.j0 (k + 2) true n.f0 n.f1 n.f2 n.f3 n.f4 n.f5 n.f6 = some false := by
    simp only [spec_l3Fields.j0]
    rw [if_pos trivial]
  have hz5 : (n.f5.toList == ([] : List UInt8)) = true → nameB n.f5 = false := fun h => nameB_empty (by simpa using h)
  have hz6 : (n.f6.toList == ([] : List UInt8)) = true → nameB n.f6 = false := fun h => nameB_empty (by simpa using h)
  have j0f : spec_l3Fields.j0 (k + 2) false n.f0 n.f1 n.f2 n.f3 n.f4 n.f5 n.f6 = some (fitsB n.f5 (decide (0 < namesN n.f0)) && (fitsB n.f6 (decide (1 < namesN n.f0)) && restB n)) := by
    simp only [spec_l3Fields.j0]
    rw [if_neg (by simp), spec_names _ (by omega)]
    simp only [Option.bind_some]
    rw [spec_name _ (by omega) _ (by omega)]
    simp only [Option.bind_some]
    rw [spec_name _ (by omega) _ (by omega)]
    simp only [Option.bind_some, j1t]
    have e1 : decide ((namesN n.f0 : Int) > 0) = decide (0 < namesN n.f0) := decide_eq_decide.2 (by omega)
    have e2 : decide ((namesN n.f0 : Int) > 1) = decide (1 < namesN n.f0) := decide_eq_decide.2 (by omega)
    rw [e1, e2]
    have hm : namesN n.f0 = 0 ∨ namesN n.f0 = 1 ∨ namesN n.f0 = 2 := by
      unfold namesN
      split
      · exact .inr (.inl rfl)
      · split
        · exact .inr (.inr rfl)
        · exact .inl rfl
    rcases hm with hm | hm | hm
    · rw [hm]
      simp only [fitsB, Nat.lt_irrefl, decide_false, Bool.false_bne, show ¬ (1 < 0) by omega, Bool.false_eq_true, if_false]
      cases h5n : nameB n.f5
      · by_cases h5e : n.f5.toList = []
        · cases h6n : nameB n.f6
          · by_cases h6e : n.f6.toList = []
            · simp [h5e, h6e, j1f]
            · have hx : (n.f6.toList != ([] : List UInt8)) = true := by simp [h6e]
              simp [h5e, h6e, hx, j1t]
          · have h6e : n.f6.toList ≠ [] := fun e => by rw [nameB_empty e] at h6n; cases h6n
            simp [h5e, h6e]
        · simp [h5e]
      · have h5e : n.f5.toList ≠ [] := fun e => by rw [nameB_empty e] at h5n; cases h5n
        simp [h5e]
    · rw [hm]
      simp only [fitsB, show (0 < 1) by omega, decide_true, Nat.lt_irrefl, decide_false, Bool.true_bne, Bool.false_bne, if_true, Bool.false_eq_true, if_false]
      cases h5n : nameB n.f5
      · simp
      · cases h6n : nameB n.f6
        · by_cases h6e : n.f6.toList = []
          · simp [h6e, j1f]
          · have hx : (n.f6.toList != ([] : List UInt8)) = true := by simp [h6e]
            simp [h6e, hx, j1t]
        · have h6e : n.f6.toList ≠ [] := fun e => by rw [nameB_empty e] at h6n; cases h6n
          simp [h6e]
    · rw [hm]
      simp only [fitsB, show (0 < 2) by omega, show (1 < 2) by omega, decide_true, Bool.true_bne, if_true]
      cases h5n : nameB n.f5
      · simp
      · cases h6n : nameB n.f6
        · simp
        · simp [j1f]
  unfold spec_l3Fields.f fieldsB
  rw [spec_inB]
  simp only [Option.bind_some]
  by_cases h0 : inB n.f0 1 19 = true
  · rw [if_pos h0, spec_arity _ (by omega), h0]
    simp only [Option.bind_some, j0t, j0f]
    have ha := arity_le n.f0
    have hb : ∀ b : Bool, (if b then true else false) = b := by decide
    have body : ∀ c : Bool, spec_l3Fields.j0 (k + 2) c n.f0 n.f1 n.f2 n.f3 n.f4 n.f5 n.f6 = some (!c && (fitsB n.f5 (decide (0 < namesN n.f0)) && (fitsB n.f6 (decide (1 < namesN n.f0)) && restB n))) := by
      intro c
      cases c
      · rw [j0f]; simp
      · rw [j0t]; simp
    rw [body]
    generalize fitsB n.f5 (decide (0 < namesN n.f0)) = p
    generalize fitsB n.f6 (decide (1 < namesN n.f0)) = q
    generalize restB n = r
    unfold noKids
    have hcases : arityN n.f0 = 0 ∨ arityN n.f0 = 1 ∨ arityN n.f0 = 2 ∨ arityN n.f0 = 3 := by omega
    rcases hcases with h | h | h | h <;> rw [h] <;> by_cases h1 : n.f1 = 0 <;> by_cases h2 : n.f2 = 0 <;> by_cases h3 : n.f3 = 0 <;> cases p <;> cases q <;> cases r <;> simp [h1, h2, h3, bne]
  · rw [if_neg h0]
    simp [h0]
end Go.Proofs.YtfmlamheflbgdaaDoor.UNode
end
section
namespace Go.Proofs.YtfmlamheflbgdaaDoor.UNode
open Go.RowKit Go.Proofs.YtfmlamheflbgdaaDoor.PAll Go.Proofs.YtfmlamheflbgdaaDoorW.PrintWords Go.Proofs.YtfmlamheflbgdaaDoorW.PrintLast Go.Proofs.YtfmlamheflbgdaaDoor.UBase
theorem getD_left {α : Type} (l m : List α) (d : α) (i : Nat) (h : i < l.length) : (l ++ m).getD i d = l.getD i d := by
  simp [List.getD, List.getElem?_append_left h]
theorem getD_right {α : Type} (l m : List α) (d : α) (i : Nat) (h : l.length ≤ i) : (l ++ m).getD i d = m.getD (i - l.length) d := by
  simp [List.getD, List.getElem?_append_right h]
def down (ss ks : List Int) : Nat → Int → Option Int
  | 0, a => some a
  | j + 1, a => if rd ks j = a - 1 ∧ 1 ≤ a then down ss ks j (rd ss (a - 1)) else none
def startsGo (l : List Nd) : Nat → Nat → List Int → Option (List Int)
  | 0, _, ss => some ss
  | d + 1, i, ss => if fieldsB (nd l i) = true then (match down ss (kids (nd l i)) (arityN (nd l i).f0) i with | none => none | some a => startsGo l d (i + 1) (ss ++ [a])) else none
def nodesOkB (l : List Nd) : Bool := inB (l.length : Int) 1 150 && (match startsGo l l.length 0 [] with | none => false | some ss => rd ss ((l.length : Int) - 1) == 0)
def Starts (ss : List Int) (i : Nat) : Prop := ss.length = i ∧ ∀ j, j < i → 0 ≤ ss.getD j 0 ∧ ss.getD j 0 ≤ j
theorem rd_nat (ss : List Int) (j : Nat) : rd ss (j : Int) = ss.getD j 0 := by
  unfold rd
  rw [Int.toNat_natCast]
theorem down_le {ss ks : List Int} {i : Nat} (hs : Starts ss i) (j : Nat) : ∀ (a b : Int), 0 ≤ a → a ≤ i → down ss ks j a = some b → 0 ≤ b ∧ b ≤ a := by
  induction j with
  | zero => intro a b h0 h1 h; simp only [down] at h; cases h; exact ⟨h0, Int.le_refl _⟩
  | succ j ih =>
    intro a b h0 h1 h
    simp only [down] at h
    split at h
    · rename_i hc
      obtain ⟨m, hm⟩ : ∃ m : Nat, a - 1 = (m : Int) := ⟨(a - 1).toNat, by omega⟩
      rw [hm, rd_nat] at h
      have := hs.2 m (by omega)
      have := ih _ b this.1 (by omega) h
      omega
    · cases h
theorem Starts.snoc {ss : List Int} {i : Nat} (hs : Starts ss i) {b : Int} (h0 : 0 ≤ b) (h1 : b ≤ i) : Starts (ss ++ [b]) (i + 1) := by
  refine ⟨by simp [hs.1], fun j hj => ?_⟩
  by_cases h : j < i
  · have e : (ss ++ [b]).getD j 0 = ss.getD j 0 := by
      rw [getD_left _ _ _ _ (by rw [hs.1]; exact h)]
    rw [e]; exact hs.2 j h
  · have e : j = i := by omega
    subst e
    have e : (ss ++ [b]).getD j 0 = b := by
      rw [getD_right _ _ _ _ (by rw [hs.1]; exact Nat.le_refl _), hs.1]; simp
    rw [e]; exact ⟨h0, h1⟩
theorem spec_down {l : List Nd} {ss ks : List Int} {i : Nat} (hs : Starts ss i) (hi : i ≤ 1000) (m : Nat) (j : Nat) : ∀ (k : Nat) (a : Int), 0 ≤ a → a ≤ i → m ≤ k → j ≤ ks.length → ks.length ≤ 3 →
    ∃ k', m ≤ k' ∧ spec_l3Starts.l1 (k + j + 1) l ss i a ks ((j : Int) - 1) = (match down ss ks j a with | none => some ([], false) | some b => spec_l3Starts.l0 k' l (ss ++ [b]) ((i : Int) + 1)) := by
  induction j with
  | zero =>
    intro k a h0 h1 hk hj hl
    refine ⟨k, hk, ?_⟩
    simp only [spec_l3Starts.l1, down]
    have hs1 := hs.1
    rw [if_neg (by omega), if_pos (by omega), w64 (by omega) (by omega)]
  | succ j ih =>
    intro k a h0 h1 hk hj hl
    have e : ((j + 1 : Nat) : Int) - 1 = (j : Int) := by omega
    have hs1 := hs.1
    by_cases hc : rd ks j = a - 1 ∧ 1 ≤ a
    · obtain ⟨m', hm'⟩ : ∃ m : Nat, a - 1 = (m : Int) := ⟨(a - 1).toNat, by omega⟩
      have hb := hs.2 m' (by omega)
      obtain ⟨k', hk', h⟩ := ih k (rd ss (a - 1)) (by rw [hm', rd_nat]; exact hb.1) (by rw [hm', rd_nat]; omega) hk (by omega) hl
      refine ⟨k', hk', ?_⟩
      rw [e, show k + (j + 1) + 1 = (k + j + 1) + 1 by omega]
      simp only [spec_l3Starts.l1, down]
      rw [if_pos hc, if_pos (by omega), if_pos (by omega), if_pos (by omega), w64 (by omega) (by omega), if_pos hc.1, hc.1, if_neg (by omega), if_pos (by omega), if_pos (by omega), w64 (by omega) (by omega)]
      exact h
    · refine ⟨k, hk, ?_⟩
      rw [e, show k + (j + 1) + 1 = (k + j + 1) + 1 by omega]
      simp only [spec_l3Starts.l1, down]
      rw [if_neg hc, if_pos (by omega), if_pos (by omega), if_pos (by omega), w64 (by omega) (by omega)]
      by_cases h2 : rd ks j = a - 1
      · rw [if_pos h2, if_pos (by omega)]
      · rw [if_neg h2]
theorem spec_starts {l : List Nd} (hl : l.length ≤ 150) (hsm : ∀ i, i < l.length → small (nd l i)) (d : Nat) : ∀ (k i : Nat) (ss : List Int), i + d = l.length → 1048610 + 5 * d ≤ k → Starts ss i →
    spec_l3Starts.l0 k l ss i = (match startsGo l d i ss with | none => some ([], false) | some t => some (t, true)) := by
  induction d with
  | zero =>
    intro k i ss hi hk hs
    obtain ⟨k, rfl⟩ := succ_of (show 0 < k by omega)
    simp only [spec_l3Starts.l0, startsGo]
    rw [if_neg (by omega)]
  | succ d ih =>
    intro k i ss hi hk hs
    obtain ⟨k, rfl⟩ := succ_of (show 0 < k by omega)
    simp only [spec_l3Starts.l0, startsGo]
    rw [if_pos (by omega), if_pos (by omega), rd_nd, spec_fields _ (hsm i (by omega)) k (by omega)]
    simp only [Option.bind_some]
    by_cases hf : fieldsB (nd l i) = true
    · rw [if_pos hf, if_pos hf, spec_kids k (by omega)]
      simp only [Option.bind_some]
      have hlen := kids_len (nd l i)
      have ha := arity_le (nd l i).f0
      rw [hlen, w64 (by omega) (by omega)]
      obtain ⟨k1, rfl⟩ : ∃ k1, k = k1 + arityN (nd l i).f0 + 1 := ⟨k - arityN (nd l i).f0 - 1, by omega⟩
      obtain ⟨k', hk', h⟩ := spec_down (l := l) (ks := kids (nd l i)) hs (by omega) k1 (arityN (nd l i).f0) k1 i (by omega) (by omega) (Nat.le_refl _) (by omega) (by omega)
      rw [h]
      cases hd : down ss (kids (nd l i)) (arityN (nd l i).f0) i with
      | none => rfl
      | some b =>
        have hb := down_le hs _ _ _ (by omega) (by omega) hd
        exact ih k' (i + 1) (ss ++ [b]) (by omega) (by omega) (hs.snoc hb.1 hb.2)
    · rw [if_neg hf, if_neg hf]
theorem starts_go {l : List Nd} (d : Nat) : ∀ (i : Nat) (ss t : List Int), i + d = l.length → Starts ss i → startsGo l d i ss = some t → Starts t l.length := by
  induction d with
  | zero => intro i ss t hi hs h; simp only [startsGo] at h; cases h; rwa [show l.length = i by omega]
  | succ d ih =>
    intro i ss t hi hs h
    simp only [startsGo] at h
    split at h
    · cases hd : down ss (kids (nd l i)) (arityN (nd l i).f0) i with
      | none => rw [hd] at h; cases h
      | some b =>
        rw [hd] at h
        have hb := down_le hs _ _ _ (by omega) (by omega) hd
        exact ih (i + 1) (ss ++ [b]) t (by omega) (hs.snoc hb.1 hb.2) h
    · cases h
theorem starts_nil : Starts [] 0 := ⟨rfl, fun j hj => by omega⟩
theorem spec_nodesOk (l : List Nd) (hn : l.length ≤ 1048576) (hsm : ∀ i, i < l.length → small (nd l i)) (k : Nat) (hk : 1050000 ≤ k) : spec_NodesOk.f k l = some (nodesOkB l) := by
  unfold spec_NodesOk.f nodesOkB
  rw [spec_inB]
  simp only [Option.bind_some]
  by_cases h : inB (l.length : Int) 1 150 = true
  · rw [if_pos h, h, Bool.true_and]
    have hl : 1 ≤ l.length ∧ l.length ≤ 150 := by unfold inB at h; simp at h; omega
    have e : spec_l3Starts.f k l = (match startsGo l l.length 0 [] with | none => some ([], false) | some t => some (t, true)) := spec_starts hl.2 hsm l.length k 0 [] (by omega) (by omega) starts_nil
    rw [e]
    cases hg : startsGo l l.length 0 [] with
    | none => rfl
    | some t =>
      have ht := starts_go l.length 0 [] t (by omega) starts_nil hg
      simp only [Option.bind_some, if_true]
      rw [w64 (by omega) (by omega), if_pos (by omega), if_pos (by rw [ht.1]; omega)]
  · rw [if_neg h]
    have : inB (l.length : Int) 1 150 = false := by simpa using h
    rw [this, Bool.false_and]
theorem rd_left (ss ts : List Int) (i : Nat) (h : ss.length = i) (j : Nat) (hj : j < i) : rd (ss ++ ts) (j : Int) = rd ss (j : Int) := by
  rw [rd_nat, rd_nat, getD_left _ _ _ _ (by omega)]
theorem set_mid (ss : List Int) (d : Nat) (b : Int) (i : Nat) (h : ss.length = i) : (ss ++ List.replicate (d + 1) 0).set i b = (ss ++ [b]) ++ List.replicate d 0 := by
  subst h
  rw [List.set_append_right _ _ (Nat.le_refl _), Nat.sub_self, List.replicate_succ, List.set_cons_zero]
  simp
theorem impl_down {l : List Nd} {ss ks : List Int} {i d : Nat} (hs : Starts ss i) (hi : i ≤ 1000) (m : Nat) (j : Nat) : ∀ (k : Nat) (a : Int), 0 ≤ a → a ≤ i → m ≤ k → j ≤ ks.length → ks.length ≤ 3 →
    ∃ k', m ≤ k' ∧ impl_NodesOk.l1 (k + j + 1) l (ss ++ List.replicate (d + 1) 0) i ks a ((j : Int) - 1) l l.length i = (match down ss ks j a with | none => some false | some b => impl_NodesOk.l0 k' l ((ss ++ [b]) ++ List.replicate d 0) l l.length ((i : Int) + 1)) := by
  have hs1 := hs.1
  have hlen : (ss ++ List.replicate (d + 1) (0 : Int)).length = i + d + 1 := by simp [hs1]; omega
  induction j with
  | zero =>
    intro k a h0 h1 hk hj hl
    refine ⟨k, hk, ?_⟩
    simp only [impl_NodesOk.l1, down]
    rw [if_neg (by omega), if_pos (by omega), if_pos (by omega), w64 (by omega) (by omega), Int.toNat_natCast, set_mid ss d a i hs1]
  | succ j ih =>
    intro k a h0 h1 hk hj hl
    have e : ((j + 1 : Nat) : Int) - 1 = (j : Int) := by omega
    by_cases hc : rd ks j = a - 1 ∧ 1 ≤ a
    · obtain ⟨m', hm'⟩ : ∃ m : Nat, a - 1 = (m : Int) := ⟨(a - 1).toNat, by omega⟩
      have hb := hs.2 m' (by omega)
      obtain ⟨k', hk', h⟩ := ih k (rd ss (a - 1)) (by rw [hm', rd_nat]; exact hb.1) (by rw [hm', rd_nat]; omega) hk (by omega) hl
      refine ⟨k', hk', ?_⟩
      rw [e, show k + (j + 1) + 1 = (k + j + 1) + 1 by omega]
      simp only [impl_NodesOk.l1, down]
      rw [if_pos hc, if_pos (by omega), if_neg (by omega), if_pos (by omega), if_pos (by omega), w64 (x := a - 1) (by omega) (by omega), if_pos hc.1, if_pos (by omega), if_pos (by omega), w64 (by omega) (by omega)]
      rw [hm'] at h ⊢
      rw [rd_left ss _ i hs1 m' (by omega)]
      exact h
    · refine ⟨k, hk, ?_⟩
      rw [e, show k + (j + 1) + 1 = (k + j + 1) + 1 by omega]
      simp only [impl_NodesOk.l1, down]
      rw [if_neg hc, if_pos (by omega)]
      by_cases h2 : a = 0
      · rw [if_pos h2]
      · rw [if_neg h2, if_pos (by omega), if_pos (by omega), w64 (x := a - 1) (by omega) (by omega), if_neg (by omega)]
theorem impl_starts {l : List Nd} (hl : 1 ≤ l.length ∧ l.length ≤ 150) (hsm : ∀ i, i < l.length → small (nd l i)) (d : Nat) : ∀ (k i : Nat) (ss : List Int), i + d = l.length → 1048610 + 5 * d ≤ k → Starts ss i →
    impl_NodesOk.l0 k l (ss ++ List.replicate d 0) l l.length i = (match startsGo l d i ss with | none => some false | some t => some (rd t ((l.length : Int) - 1) == 0)) := by
  induction d with
  | zero =>
    intro k i ss hi hk hs
    obtain ⟨k, rfl⟩ := succ_of (show 0 < k by omega)
    simp only [impl_NodesOk.l0, startsGo]
    have hs1 := hs.1
    rw [if_neg (by omega), w64 (by omega) (by omega), List.replicate_zero, List.append_nil, if_pos (by omega), if_pos (by omega)]
  | succ d ih =>
    intro k i ss hi hk hs
    obtain ⟨k, rfl⟩ := succ_of (show 0 < k by omega)
    simp only [impl_NodesOk.l0, startsGo]
    rw [if_pos (by omega), if_pos (by omega), if_pos (by omega), rd_nd, impl_fields _ (hsm i (by omega)) k (by omega)]
    simp only [Option.bind_some]
    by_cases hf : fieldsB (nd l i) = true
    · rw [if_pos hf, if_pos hf, impl_kids k (by omega)]
      simp only [Option.bind_some]
      have hlen := kids_len (nd l i)
      have ha := arity_le (nd l i).f0
      rw [hlen, w64 (by omega) (by omega)]
      obtain ⟨k1, rfl⟩ : ∃ k1, k = k1 + arityN (nd l i).f0 + 1 := ⟨k - arityN (nd l i).f0 - 1, by omega⟩
      obtain ⟨k', hk', h⟩ := impl_down (l := l) (ks := kids (nd l i)) (d := d) hs (by omega) k1 (arityN (nd l i).f0) k1 i (by omega) (by omega) (Nat.le_refl _) (by omega) (by omega)
      rw [h]
      cases hd : down ss (kids (nd l i)) (arityN (nd l i).f0) i with
      | none => rfl
      | some b =>
        have hb := down_le hs _ _ _ (by omega) (by omega) hd
        exact ih k' (i + 1) (ss ++ [b]) (by omega) (by omega) (hs.snoc hb.1 hb.2)
    · rw [if_neg hf, if_neg hf]
theorem impl_nodesOk (l : List Nd) (hn : l.length ≤ 1048576) (hsm : ∀ i, i < l.length → small (nd l i)) (k : Nat) (hk : 1050000 ≤ k) : impl_NodesOk.f k l = some (nodesOkB l) := by
  unfold impl_NodesOk.f nodesOkB
  rw [impl_inB]
  simp only [Option.bind_some]
  by_cases h : inB (l.length : Int) 1 150 = true
  · rw [if_pos h, h, Bool.true_and]
    have hl : 1 ≤ l.length ∧ l.length ≤ 150 := by unfold inB at h; simp at h; omega
    have e := impl_starts hl hsm l.length k 0 [] (by omega) (by omega) starts_nil
    rw [List.nil_append] at e
    rw [if_pos (by omega), if_pos (by omega), Int.toNat_natCast]
    refine Eq.trans e ?_
    cases startsGo l l.length 0 [] <;> rfl
  · rw [if_neg h]
    have : inB (l.length : Int) 1 150 = false := by simpa using h
    rw [this, Bool.false_and]
theorem down_kids {ss ks : List Int} {i : Nat} (hs : Starts ss i) (j : Nat) : ∀ (a b : Int), 0 ≤ a → a ≤ i → down ss ks j a = some b → ∀ m, m < j → b ≤ rd ks (m : Int) ∧ rd ks (m : Int) < a := by
  induction j with
  | zero => intro a b _ _ _ m hm; omega
  | succ j ih =>
    intro a b h0 h1 h m hm
    simp only [down] at h
    split at h
    · rename_i hc
      obtain ⟨q, hq⟩ : ∃ q : Nat, a - 1 = (q : Int) := ⟨(a - 1).toNat, by omega⟩
      rw [hq, rd_nat] at h
      have hb := hs.2 q (by omega)
      have hd := down_le hs j _ b hb.1 (by omega) h
      by_cases hmj : m = j
      · subst hmj; omega
      · have := ih _ b hb.1 (by omega) h m (by omega)
        omega
    · cases h
theorem go_kids {l : List Nd} (d : Nat) : ∀ (i : Nat) (ss t : List Int), i + d = l.length → Starts ss i → startsGo l d i ss = some t → ∀ x, i ≤ x → x < l.length → fieldsB (nd l x) = true ∧ ∀ m, m < arityN (nd l x).f0 → 0 ≤ rd (kids (nd l x)) (m : Int) ∧ rd (kids (nd l x)) (m : Int) < x := by
  induction d with
  | zero => intro i ss t hi _ _ x h0 h1; omega
  | succ d ih =>
    intro i ss t hi hs h x h0 h1
    simp only [startsGo] at h
    split at h
    · rename_i hf
      cases hd : down ss (kids (nd l i)) (arityN (nd l i).f0) i with
      | none => rw [hd] at h; cases h
      | some b =>
        rw [hd] at h
        have hb := down_le hs _ _ _ (by omega) (by omega) hd
        by_cases hx : x = i
        · subst hx
          refine ⟨hf, fun m hm => ?_⟩
          have := down_kids hs _ _ _ (by omega) (by omega) hd m hm
          omega
        · exact ih (i + 1) (ss ++ [b]) t (by omega) (hs.snoc hb.1 hb.2) h x (by omega) h1
    · cases h
theorem ok_len {l : List Nd} (h : nodesOkB l = true) : 1 ≤ l.length ∧ l.length ≤ 150 := by
  unfold nodesOkB inB at h
  simp at h
  omega
theorem ok_kids {l : List Nd} (h : nodesOkB l = true) (x : Nat) (hx : x < l.length) (m : Nat) (hm : m < arityN (nd l x).f0) : 0 ≤ rd (kids (nd l x)) (m : Int) ∧ rd (kids (nd l x)) (m : Int) < x := by
  unfold nodesOkB at h
  cases hg : startsGo l l.length 0 [] with
  | none => rw [hg] at h; simp at h
  | some t => exact (go_kids l.length 0 [] t (by omega) starts_nil hg x (by omega) hx).2 m hm
def toN (a : LNd) : Nd := ⟨a.f0, a.f1, a.f2, a.f3, a.f4, a.f5, a.f6⟩
theorem toNodeS_l0 (x0 : List LNd) (hn : x0.length ≤ 1048576) (d : Nat) : ∀ (k i : Nat) (x3 : List Nd), i + d = x0.length → d < k → x3.length = x0.length → (∀ j, j < i → x3.getD j z55 = toN (x0.getD j z62)) →
    laws_toNodeS.l0 k x0 x3 i = some (x0.map toN) := by
  induction d with
  | zero =>
    intro k i x3 hi hk hl h
    obtain ⟨k, rfl⟩ := succ_of hk
    simp only [laws_toNodeS.l0]
    rw [if_neg (by omega)]
    refine congrArg some (ext_getD z55 (by simpa using hl) fun j hj => ?_)
    rw [h j (by omega)]
    simp [List.getD, show j < x0.length by omega]
  | succ d ih =>
    intro k i x3 hi hk hl h
    obtain ⟨k, rfl⟩ := succ_of hk
    simp only [laws_toNodeS.l0, laws_toNode.f]
    rw [if_pos (by omega), if_pos (by omega)]
    simp only [Option.bind_some]
    rw [if_pos (by omega), w64 (by omega) (by omega)]
    refine ih k (i + 1) _ (by omega) (by omega) (by simpa using hl) fun j hj => ?_
    have e : ((i : Nat) : Int).toNat = i := by omega
    rw [e]
    by_cases hji : j = i
    · subst hji
      rw [set_getD_eq _ _ _ _ (by omega)]
      simp only [rd_T62, e]
      rfl
    · rw [set_getD_ne _ _ _ _ _ (by omega)]
      exact h j (by omega)
theorem toNodeS (l : List LNd) (hn : l.length ≤ 1048576) (k : Nat) (hk : l.length < k) : laws_toNodeS.f k l = some (l.map toN) := by
  unfold laws_toNodeS.f
  rw [if_pos (by omega), if_pos (by omega)]
  exact toNodeS_l0 l hn l.length k 0 _ (by omega) hk (by simp) (fun j hj => by omega)
theorem eqNode_refl (a : Nd) : laws_eqNode.f a.f0 a.f1 a.f2 a.f3 a.f4 a.f5 a.f6 a.f0 a.f1 a.f2 a.f3 a.f4 a.f5 a.f6 = some true := by
  simp [laws_eqNode.f]
theorem eqNodeS_l0 (x : List Nd) (hn : x.length ≤ 4000000) (d : Nat) : ∀ (k i : Nat), i + d = x.length → d < k → laws_eqNodeS.l0 k x x i = some true := by
  induction d with
  | zero =>
    intro k i hi hk
    obtain ⟨k, rfl⟩ := succ_of hk
    simp only [laws_eqNodeS.l0]
    rw [if_neg (by omega)]
  | succ d ih =>
    intro k i hi hk
    obtain ⟨k, rfl⟩ := succ_of hk
    simp only [laws_eqNodeS.l0]
    rw [if_pos (by omega), if_pos (by omega), if_pos (by omega), eqNode_refl]
    simp only [Option.bind_some, if_true]
    rw [w64 (by omega) (by omega)]
    exact ih k (i + 1) (by omega) (by omega)
theorem eqNodeS (x : List Nd) (hn : x.length ≤ 4000000) (k : Nat) (hk : x.length < k) : laws_eqNodeS.f k x x = some true := by
  unfold laws_eqNodeS.f
  rw [if_pos rfl]
  exact eqNodeS_l0 x hn x.length k 0 (by omega) hk
theorem szNodeS_l0 (l : List LNd) (hn : l.length ≤ 1048576) (hm : ∀ j, j < l.length → (l.getD j z62).f5.size ≤ 9223372036854775807 ∧ (l.getD j z62).f6.size ≤ 9223372036854775807) (d : Nat) : ∀ (k i : Nat) (n : Int), i + d = l.length → d < k → 0 ≤ n → n ≤ 1048576 →
    ∃ r, laws_szNodeS.l0 k l n i = some r ∧ -1 ≤ r ∧ r ≤ n ∧ (r < 0 ∨ ∀ j, i ≤ j → j < l.length → (l.getD j z62).f5.size ≤ 1048576 ∧ (l.getD j z62).f6.size ≤ 1048576) := by
  induction d with
  | zero =>
    intro k i n hi hk h0 h1
    obtain ⟨k, rfl⟩ := succ_of hk
    refine ⟨n, ?_, by omega, Int.le_refl _, .inr fun j h2 h3 => by omega⟩
    simp only [laws_szNodeS.l0]
    rw [if_neg (by omega)]
  | succ d ih =>
    intro k i n hi hk h0 h1
    obtain ⟨k, rfl⟩ := succ_of hk
    simp only [laws_szNodeS.l0, laws_szNode.f]
    have e : ((i : Nat) : Int).toNat = i := by omega
    have hr : rd_T62 l (i : Int) = l.getD i z62 := by simp only [rd_T62, e]
    obtain ⟨m5, m6⟩ := hm i (by omega)
    rw [if_pos (by omega), if_pos (by omega), hr, w64 (x := n - _) (by omega) (by omega)]
    by_cases h5 : n - ((l.getD i z62).f5.size : Int) < 0
    · rw [if_pos h5]
      simp only [Option.bind_some]
      rw [if_pos (by omega)]
      exact ⟨-1, rfl, by omega, by omega, .inl (by omega)⟩
    · rw [if_neg h5, w64 (x := n - ((l.getD i z62).f5.size : Int) - _) (by omega) (by omega)]
      by_cases h6 : n - ((l.getD i z62).f5.size : Int) - ((l.getD i z62).f6.size : Int) < 0
      · rw [if_pos h6]
        simp only [Option.bind_some]
        rw [if_pos (by omega)]
        exact ⟨-1, rfl, by omega, by omega, .inl (by omega)⟩
      · rw [if_neg h6]
        simp only [Option.bind_some]
        rw [if_neg h6, w64 (by omega) (by omega)]
        obtain ⟨r, hr, ha, hb, hc⟩ := ih k (i + 1) (n - ((l.getD i z62).f5.size : Int) - ((l.getD i z62).f6.size : Int)) (by omega) (by omega) (by omega) (by omega)
        refine ⟨r, hr, ha, by omega, ?_⟩
        rcases hc with hc | hc
        · exact .inl hc
        · refine .inr fun j h2 h3 => ?_
          by_cases hj : j = i
          · subst hj; omega
          · exact hc j (by omega) h3
theorem szNodeS (l : List LNd) (hl : l.length ≤ 9223372036854775807) (hm : ∀ j, j < l.length → (l.getD j z62).f5.size ≤ 9223372036854775807 ∧ (l.getD j z62).f6.size ≤ 9223372036854775807) (n : Int) (h0 : 0 ≤ n) (h1 : n ≤ 1048576) (k : Nat) (hk : 1048580 ≤ k) :
    ∃ r, laws_szNodeS.f k l n = some r ∧ -1 ≤ r ∧ r ≤ n ∧ (r < 0 ∨ l.length ≤ 1048576 ∧ ∀ i, i < (l.map toN).length → small (nd (l.map toN) i)) := by
  unfold laws_szNodeS.f
  rw [w64 (by omega) (by omega)]
  by_cases h : n - (l.length : Int) < 0
  · rw [if_pos h]
    exact ⟨-1, rfl, by omega, by omega, .inl (by omega)⟩
  · rw [if_neg h]
    obtain ⟨r, hr, ha, hb, hc⟩ := szNodeS_l0 l (by omega) hm l.length k 0 (n - (l.length : Int)) (by omega) (by omega) (by omega) (by omega)
    refine ⟨r, hr, ha, by omega, ?_⟩
    rcases hc with hc | hc
    · exact .inl hc
    · refine .inr ⟨by omega, fun i hi => ?_⟩
      have hi' : i < l.length := by simpa using hi
      have := hc i (by omega) hi'
      have e : nd (l.map toN) i = toN (l.getD i z62) := by
        unfold nd
        simp [List.getD, hi']
      rw [e]
      exact this
end Go.Proofs.YtfmlamheflbgdaaDoor.UNode
end
section
namespace Go.Proofs.YtfmlamheflbgdaaDoor.UNode
open Go.RowKit Go.Proofs.YtfmlamheflbgdaaDoor.PAll Go.Proofs.YtfmlamheflbgdaaDoorW.PrintWords Go.Proofs.YtfmlamheflbgdaaDoorW.PrintLast Go.Proofs.YtfmlamheflbgdaaDoor.UBase
theorem down_congr {ss t ks : List Int} {i : Nat} (hs : Starts ss i) (he : ∀ j : Nat, j < i → rd ss (j : Int) = rd t (j : Int)) (m : Nat) : ∀ a : Int, 0 ≤ a → a ≤ i → down ss ks m a = down t ks m a := by
  induction m with
  | zero => intro a _ _; rfl
  | succ m ih =>
    intro a h0 h1
    simp only [down]
    by_cases hc : rd ks m = a - 1 ∧ 1 ≤ a
    · rw [if_pos hc, if_pos hc]
      obtain ⟨q, hq⟩ : ∃ q : Nat, a - 1 = (q : Int) := ⟨(a - 1).toNat, by omega⟩
      have hb := hs.2 q (by omega)
      rw [hq, ← he q (by omega), rd_nat]
      exact ih _ hb.1 (by omega)
    · rw [if_neg hc, if_neg hc]
theorem go_starts {l : List Nd} (d : Nat) : ∀ (i : Nat) (ss t : List Int), i + d = l.length → Starts ss i → startsGo l d i ss = some t →
    (∀ j : Nat, j < i → rd t (j : Int) = rd ss (j : Int)) ∧ ∀ x : Nat, i ≤ x → x < l.length → down t (kids (nd l x)) (arityN (nd l x).f0) x = some (rd t (x : Int)) := by
  induction d with
  | zero => intro i ss t hi hs h; simp only [startsGo] at h; cases h; exact ⟨fun _ _ => rfl, fun x h0 h1 => by omega⟩
  | succ d ih =>
    intro i ss t hi hs h
    simp only [startsGo] at h
    split at h
    · cases hd : down ss (kids (nd l i)) (arityN (nd l i).f0) i with
      | none => rw [hd] at h; cases h
      | some b =>
        rw [hd] at h
        have hb := down_le hs _ _ _ (by omega) (by omega) hd
        obtain ⟨h1, h2⟩ := ih (i + 1) (ss ++ [b]) t (by omega) (hs.snoc hb.1 hb.2) h
        have hl : ∀ j : Nat, j < i → rd t (j : Int) = rd ss (j : Int) := fun j hj => by
          rw [h1 j (by omega), rd_nat, rd_nat, getD_left _ _ _ _ (by rw [hs.1]; exact hj)]
        refine ⟨hl, fun x h3 h4 => ?_⟩
        by_cases hx : x = i
        · subst hx
          rw [← down_congr hs (fun j hj => (hl j hj).symm) _ _ (by omega) (by omega), hd, h1 x (by omega), rd_nat, getD_right _ _ _ _ (by rw [hs.1]; exact Nat.le_refl _), hs.1]
          simp
        · exact h2 x (by omega) h4
    · cases h
theorem ok_starts {l : List Nd} (h : nodesOkB l = true) : ∃ t : List Int, Starts t l.length ∧ ∀ x : Nat, x < l.length → down t (kids (nd l x)) (arityN (nd l x).f0) x = some (rd t (x : Int)) := by
  unfold nodesOkB at h
  cases hg : startsGo l l.length 0 [] with
  | none => rw [hg] at h; simp at h
  | some t => exact ⟨t, starts_go l.length 0 [] t (by omega) starts_nil hg, fun x hx => (go_starts l.length 0 [] t (by omega) starts_nil hg).2 x (by omega) hx⟩
theorem down_tile {t ks : List Int} {i : Nat} (hs : Starts t i) (j : Nat) : ∀ (a b : Int), 0 ≤ a → a ≤ i → down t ks j a = some b → ∀ p : Int, b ≤ p → p < a → ∃ m, m < j ∧ rd t (rd ks (m : Int)) ≤ p ∧ p ≤ rd ks (m : Int) ∧ rd ks (m : Int) < a ∧ b ≤ rd t (rd ks (m : Int)) := by
  induction j with
  | zero => intro a b _ _ h p h0 h1; simp only [down] at h; cases h; omega
  | succ j ih =>
    intro a b h0 h1 h p h2 h3
    simp only [down] at h
    split at h
    · rename_i hc
      obtain ⟨q, hq⟩ : ∃ q : Nat, a - 1 = (q : Int) := ⟨(a - 1).toNat, by omega⟩
      have hb := hs.2 q (by omega)
      have hb0 : 0 ≤ rd t (a - 1) := by rw [hq, rd_nat]; exact hb.1
      have hb1 : rd t (a - 1) ≤ a - 1 := by rw [hq, rd_nat]; omega
      have hd := down_le hs j _ b hb0 (by omega) h
      by_cases hp : rd t (a - 1) ≤ p
      · exact ⟨j, by omega, by rw [hc.1]; exact hp, by omega, by omega, by rw [hc.1]; omega⟩
      · obtain ⟨m, k1, k2, k3, k4, k5⟩ := ih _ b hb0 (by omega) h p h2 (by omega)
        exact ⟨m, by omega, k2, k3, by omega, k5⟩
    · cases h
theorem down_gap {t ks : List Int} {i : Nat} (hs : Starts t i) (j : Nat) : ∀ (a b : Int), 0 ≤ a → a ≤ i → down t ks j a = some b → ∀ m0, m0 < j → (b ≤ rd t (rd ks (m0 : Int))) ∧ ∀ p : Int, rd ks (m0 : Int) < p → p < a → ∃ m, m < j ∧ rd t (rd ks (m : Int)) ≤ p ∧ p ≤ rd ks (m : Int) ∧ rd ks (m : Int) < a ∧ rd ks (m0 : Int) < rd t (rd ks (m : Int)) := by
  induction j with
  | zero => intro a b _ _ _ m0 hm; omega
  | succ j ih =>
    intro a b h0 h1 h m0 hm
    have h' := h
    simp only [down] at h
    split at h
    · rename_i hc
      obtain ⟨q, hq⟩ : ∃ q : Nat, a - 1 = (q : Int) := ⟨(a - 1).toNat, by omega⟩
      have hb := hs.2 q (by omega)
      have hb0 : 0 ≤ rd t (a - 1) := by rw [hq, rd_nat]; exact hb.1
      have hb1 : rd t (a - 1) ≤ a - 1 := by rw [hq, rd_nat]; omega
      have hd := down_le hs j _ b hb0 (by omega) h
      by_cases hmj : m0 = j
      · subst hmj
        exact ⟨by rw [hc.1]; omega, fun p h2 h3 => by omega⟩
      · obtain ⟨k0, k⟩ := ih _ b hb0 (by omega) h m0 (by omega)
        have hk := down_kids hs j _ b hb0 (by omega) h m0 (by omega)
        refine ⟨k0, fun p h2 h3 => ?_⟩
        by_cases hp : rd t (a - 1) ≤ p
        · exact ⟨j, by omega, by rw [hc.1]; exact hp, by omega, by omega, by rw [hc.1]; omega⟩
        · obtain ⟨m, k1, k2, k3, k4, k5⟩ := k p h2 (by omega)
          exact ⟨m, by omega, k2, k3, by omega, k5⟩
    · cases h
theorem laminar {l : List Nd} {t : List Int} (hs : Starts t l.length) (hd : ∀ x : Nat, x < l.length → down t (kids (nd l x)) (arityN (nd l x).f0) x = some (rd t (x : Int))) (N : Nat) : ∀ k : Nat, k < N → k < l.length → ∀ p : Nat, rd t (k : Int) ≤ p → p ≤ k → rd t (k : Int) ≤ rd t (p : Int) := by
  induction N with
  | zero => intro k hk; omega
  | succ N ih =>
    intro k hk hkl p h0 h1
    by_cases hp : p = k
    · subst hp; exact Int.le_refl _
    · have hb := hs.2 k hkl
      obtain ⟨m, k1, k2, k3, k4, k5⟩ := down_tile hs _ _ _ (by omega) (by omega) (hd k hkl) p h0 (by omega)
      obtain ⟨q, hq⟩ : ∃ q : Nat, rd (kids (nd l k)) (m : Int) = (q : Int) := ⟨(rd (kids (nd l k)) (m : Int)).toNat, by omega⟩
      rw [hq] at k2 k3 k4 k5
      have := ih q (by omega) (by omega) p k2 (by omega)
      omega
theorem one_parent {l : List Nd} (h : nodesOkB l = true) {x y : Nat} (hx : x < l.length) (hy : y < l.length) {m m' : Nat} (hm : m < arityN (nd l x).f0) (hm' : m' < arityN (nd l y).f0) (he : rd (kids (nd l x)) (m : Int) = rd (kids (nd l y)) (m' : Int)) : x = y := by
  obtain ⟨t, hs, hd⟩ := ok_starts h
  have key : ∀ {x y : Nat}, x < l.length → y < l.length → ∀ {m m' : Nat}, m < arityN (nd l x).f0 → m' < arityN (nd l y).f0 → rd (kids (nd l x)) (m : Int) = rd (kids (nd l y)) (m' : Int) → x < y → False := by
    intro x y hx hy m m' hm hm' he hlt
    have hkx := ok_kids h x hx m hm
    obtain ⟨a1, a2⟩ := down_gap hs _ _ _ (by omega) (by omega) (hd y hy) m' hm'
    obtain ⟨b1, _⟩ := down_gap hs _ _ _ (by omega) (by omega) (hd x hx) m hm
    obtain ⟨q, k1, k2, k3, k4, k5⟩ := a2 x (by omega) (by omega)
    have hkq := ok_kids h y hy q k1
    obtain ⟨K, hK⟩ : ∃ K : Nat, rd (kids (nd l y)) (q : Int) = (K : Int) := ⟨(rd (kids (nd l y)) (q : Int)).toNat, by omega⟩
    rw [hK] at k2 k3 k4 k5
    have hl := laminar hs hd (K + 1) K (by omega) (by omega) x k2 (by omega)
    obtain ⟨c, hc⟩ : ∃ c : Nat, rd (kids (nd l x)) (m : Int) = (c : Int) := ⟨(rd (kids (nd l x)) (m : Int)).toNat, by omega⟩
    rw [hc] at b1 hkx he
    have hsc := hs.2 c (by omega)
    rw [← rd_nat] at hsc
    omega
  by_cases h1 : x < y
  · exact (key hx hy hm hm' he h1).elim
  · by_cases h2 : y < x
    · exact (key hy hx hm' hm he.symm h2).elim
    · omega
def hasFrom (ks : List Int) (c : Int) : Nat → Nat → Bool
  | 0, _ => false
  | e + 1, j => if rd ks (j : Int) = c then true else hasFrom ks c e (j + 1)
def hasKid (n : Nd) (c : Int) : Bool := hasFrom (kids n) c (arityN n.f0) 0
theorem hasFrom_iff (ks : List Int) (c : Int) (e : Nat) : ∀ j, hasFrom ks c e j = true ↔ ∃ m, j ≤ m ∧ m < j + e ∧ rd ks (m : Int) = c := by
  induction e with
  | zero => intro j; simp [hasFrom]; omega
  | succ e ih =>
    intro j
    simp only [hasFrom]
    by_cases h : rd ks (j : Int) = c
    · rw [if_pos h]
      exact ⟨fun _ => ⟨j, by omega, by omega, h⟩, fun _ => rfl⟩
    · rw [if_neg h, ih]
      constructor
      · rintro ⟨m, h1, h2, h3⟩; exact ⟨m, by omega, by omega, h3⟩
      · rintro ⟨m, h1, h2, h3⟩
        refine ⟨m, ?_, by omega, h3⟩
        by_cases hm : m = j
        · subst hm; exact absurd h3 h
        · omega
theorem hasKid_iff (n : Nd) (c : Int) : hasKid n c = true ↔ ∃ m, m < arityN n.f0 ∧ rd (kids n) (m : Int) = c := by
  unfold hasKid
  rw [hasFrom_iff]
  constructor
  · rintro ⟨m, _, h2, h3⟩; exact ⟨m, by omega, h3⟩
  · rintro ⟨m, h2, h3⟩; exact ⟨m, by omega, by omega, h3⟩
def parFrom (l : List Nd) (c : Int) : Nat → Nat → Int
  | 0, _ => -1
  | d + 1, i => if hasKid (nd l i) c = true then i else parFrom l c d (i + 1)
def parOf (l : List Nd) (c : Int) : Int := parFrom l c l.length 0
def lastPar (l : List Nd) (c : Int) : Nat → Int
  | 0 => -1
  | i + 1 => if hasKid (nd l i) c = true then i else lastPar l c i
theorem parFrom_none (l : List Nd) (c : Int) (d : Nat) : ∀ i, (∀ x, i ≤ x → x < i + d → hasKid (nd l x) c = false) → parFrom l c d i = -1 := by
  induction d with
  | zero => intro i _; rfl
  | succ d ih =>
    intro i h
    simp only [parFrom]
    rw [h i (by omega) (by omega), if_neg (by simp)]
    exact ih (i + 1) fun x h1 h2 => h x (by omega) (by omega)
theorem parFrom_at (l : List Nd) (c : Int) (x : Nat) (hx : hasKid (nd l x) c = true) (d : Nat) : ∀ i, (∀ y, i ≤ y → y < x → hasKid (nd l y) c = false) → i ≤ x → x < i + d → parFrom l c d i = x := by
  induction d with
  | zero => intro i _ _ _; omega
  | succ d ih =>
    intro i h h0 h1
    simp only [parFrom]
    by_cases hi : i = x
    · subst hi; rw [if_pos hx]
    · rw [h i (by omega) (by omega), if_neg (by simp)]
      exact ih (i + 1) (fun y h2 h3 => h y (by omega) h3) (by omega) (by omega)
theorem last_par {l : List Nd} (h : nodesOkB l = true) (c : Int) (i : Nat) : i ≤ l.length → (∀ x, i ≤ x → x < l.length → hasKid (nd l x) c = false) → lastPar l c i = parOf l c := by
  induction i with
  | zero =>
    intro _ hx
    exact (parFrom_none l c l.length 0 fun x _ h2 => hx x (by omega) (by omega)).symm
  | succ i ih =>
    intro hi hx
    simp only [lastPar]
    by_cases hk : hasKid (nd l i) c = true
    · rw [if_pos hk]
      refine (parFrom_at l c i hk l.length 0 (fun y _ hy => ?_) (by omega) (by omega)).symm
      cases hh : hasKid (nd l y) c with
      | false => rfl
      | true =>
        obtain ⟨m, h1, h2⟩ := (hasKid_iff _ _).1 hh
        obtain ⟨m', h3, h4⟩ := (hasKid_iff _ _).1 hk
        have := one_parent h (show y < l.length by omega) (show i < l.length by omega) h1 h3 (h2.trans h4.symm)
        omega
    · rw [if_neg hk]
      refine ih (by omega) fun x h1 h2 => ?_
      by_cases hxi : x = i
      · subst hxi; simpa using hk
      · exact hx x (by omega) h2
theorem parOf_lt (l : List Nd) (c : Int) : parOf l c < l.length := by
  have : ∀ d i, parFrom l c d i < (i : Int) + d := by
    intro d
    induction d with
    | zero => intro i; simp only [parFrom]; omega
    | succ d ih =>
      intro i
      simp only [parFrom]
      split
      · omega
      · have := ih (i + 1); omega
  have := this l.length 0
  unfold parOf
  omega
theorem parOf_gt {l : List Nd} (h : nodesOkB l = true) (c : Int) : parOf l c = -1 ∨ (c < parOf l c ∧ 0 ≤ parOf l c) := by
  have : ∀ d i, i + d ≤ l.length → parFrom l c d i = -1 ∨ (c < parFrom l c d i ∧ 0 ≤ parFrom l c d i) := by
    intro d
    induction d with
    | zero => intro i _; exact .inl rfl
    | succ d ih =>
      intro i hi
      simp only [parFrom]
      split
      · rename_i hk
        obtain ⟨m, h1, h2⟩ := (hasKid_iff _ _).1 hk
        have := ok_kids h i (by omega) m h1
        exact .inr ⟨by omega, by omega⟩
      · exact ih (i + 1) (by omega)
  exact this l.length 0 (by omega)
end Go.Proofs.YtfmlamheflbgdaaDoor.UNode
end
section
namespace Go.Proofs.YtfmlamheflbgdaaDoor.UNode
open Go.RowKit Go.Proofs.YtfmlamheflbgdaaDoor.PAll Go.Proofs.YtfmlamheflbgdaaDoorW.PrintWords Go.Proofs.YtfmlamheflbgdaaDoorW.PrintLast Go.Proofs.YtfmlamheflbgdaaDoor.UBase
theorem spec_has_l0 (ks : List Int) (c : Int) (hn : ks.length ≤ 3) (e : Nat) : ∀ (k j : Nat), j + e = ks.length → e < k → spec_l4Has.l0 k ks c j = some (hasFrom ks c e j) := by
  induction e with
  | zero =>
    intro k j hj hk
    obtain ⟨k, rfl⟩ := succ_of hk
    simp only [spec_l4Has.l0, hasFrom]
    rw [if_neg (by omega)]
  | succ e ih =>
    intro k j hj hk
    obtain ⟨k, rfl⟩ := succ_of hk
    simp only [spec_l4Has.l0, hasFrom]
    rw [if_pos (by omega), if_pos (by omega), w64 (by omega) (by omega)]
    by_cases h : rd ks (j : Int) = c
    · rw [if_pos h, if_pos h]
    · rw [if_neg h, if_neg h]
      exact ih k (j + 1) (by omega) (by omega)
theorem spec_has (n : Nd) (c : Int) (k : Nat) (hk : 4 ≤ k) : spec_l4Has.f k (kids n) c = some (hasKid n c) := by
  have h1 := kids_len n
  have h2 := arity_le n.f0
  unfold spec_l4Has.f hasKid
  rw [← h1]
  exact spec_has_l0 (kids n) c (by omega) (kids n).length k 0 (by omega) (by omega)
theorem spec_par_l0 {l : List Nd} (hl : l.length ≤ 150) (c : Int) (d : Nat) : ∀ (k i : Nat), i + d = l.length → d + 10 < k → spec_ParentOf.l0 k l c i = some (parFrom l c d i) := by
  induction d with
  | zero =>
    intro k i hi hk
    obtain ⟨k, rfl⟩ := succ_of (show 0 < k by omega)
    simp only [spec_ParentOf.l0, parFrom]
    rw [if_neg (by omega)]
  | succ d ih =>
    intro k i hi hk
    obtain ⟨k, rfl⟩ := succ_of (show 0 < k by omega)
    simp only [spec_ParentOf.l0, parFrom]
    rw [if_pos (by omega), if_pos (by omega), rd_nd, spec_kids k (by omega)]
    simp only [Option.bind_some]
    rw [spec_has _ _ k (by omega)]
    simp only [Option.bind_some]
    rw [w64 (by omega) (by omega)]
    by_cases h : hasKid (nd l i) c = true
    · rw [if_pos h, if_pos h]
    · rw [if_neg h, if_neg h]
      exact ih k (i + 1) (by omega) (by omega)
theorem spec_par {l : List Nd} (h : nodesOkB l = true) (hsm : ∀ i, i < l.length → small (nd l i)) (c : Int) (k : Nat) (hk : 1050000 ≤ k) : spec_ParentOf.f k l c = some (parOf l c) := by
  have hlen := ok_len h
  unfold spec_ParentOf.f
  rw [spec_nodesOk l (by omega) hsm k hk]
  simp only [Option.bind_some]
  rw [if_pos h]
  exact spec_par_l0 hlen.2 c l.length k 0 (by omega) (by omega)
def ParT (l : List Nd) (p : List Int) (i : Nat) : Prop := p.length = l.length ∧ ∀ c : Nat, c < l.length → p.getD c 0 = lastPar l c i
def pars (l : List Nd) : List Int := (List.range l.length).map fun c : Nat => lastPar l (c : Int) l.length
theorem pars_len (l : List Nd) : (pars l).length = l.length := by simp [pars]
theorem pars_at (l : List Nd) (c : Nat) (hc : c < l.length) : (pars l).getD c 0 = lastPar l c l.length := by
  simp [pars, List.getD, hc]
theorem impl_par_l2 {l : List Nd} (h : nodesOkB l = true) (i : Nat) (hi : i < l.length) (e : Nat) : ∀ (k j : Nat) (p : List Int), j + e = arityN (nd l i).f0 → p.length = l.length →
    ∃ p' : List Int, p'.length = l.length ∧ (∀ c : Nat, c < l.length → p'.getD c 0 = if hasFrom (kids (nd l i)) c e j = true then (i : Int) else p.getD c 0) ∧
      impl_parents.l2 (k + e + 1) p i l l.length i (kids (nd l i)) (arityN (nd l i).f0) j = impl_parents.l1 k p' l l.length ((i : Int) + 1) := by
  have hlen := ok_len h
  have ha := arity_le (nd l i).f0
  have hk' := kids_len (nd l i)
  induction e with
  | zero =>
    intro k j p hj hp
    refine ⟨p, hp, fun c _ => by simp [hasFrom], ?_⟩
    simp only [impl_parents.l2]
    rw [if_neg (by omega), w64 (by omega) (by omega)]
  | succ e ih =>
    intro k j p hj hp
    have hb := ok_kids h i hi j (by omega)
    obtain ⟨q, hq⟩ : ∃ q : Nat, rd (kids (nd l i)) (j : Int) = (q : Int) := ⟨(rd (kids (nd l i)) (j : Int)).toNat, by omega⟩
    obtain ⟨p', h1, h2, h3⟩ := ih k (j + 1) (p.set q i) (by omega) (by simpa using hp)
    refine ⟨p', h1, fun c hc => ?_, ?_⟩
    · have hs : hasFrom (kids (nd l i)) c (e + 1) j = (decide (rd (kids (nd l i)) (j : Int) = c) || hasFrom (kids (nd l i)) c e (j + 1)) := by
        simp only [hasFrom]
        by_cases hx : rd (kids (nd l i)) (j : Int) = c
        · rw [if_pos hx, decide_eq_true hx, Bool.true_or]
        · rw [if_neg hx, decide_eq_false hx, Bool.false_or]
      rw [h2 c hc, hs, hq]
      by_cases hcq : q = c
      · subst hcq
        rw [set_getD_eq _ _ _ _ (by omega)]
        simp
      · rw [set_getD_ne _ _ _ _ _ hcq, decide_eq_false (by omega), Bool.false_or]
    · obtain ⟨z, hz⟩ : ∃ z, z = k + e + 1 := ⟨_, rfl⟩
      rw [← hz] at h3
      rw [show k + (e + 1) + 1 = z + 1 by omega]
      simp only [impl_parents.l2]
      rw [if_pos (by omega), if_pos (by omega), if_pos (by omega), hq, if_pos (by omega), if_pos (by omega), w64 (by omega) (by omega), Int.toNat_natCast]
      exact h3
theorem impl_par_l1 {l : List Nd} (h : nodesOkB l = true) (d : Nat) : ∀ (k i : Nat) (p : List Int), i + d = l.length → 6 * d + 20 < k → ParT l p i → impl_parents.l1 k p l l.length i = some (pars l) := by
  have hlen := ok_len h
  induction d with
  | zero =>
    intro k i p hi hk hp
    obtain ⟨k, rfl⟩ := succ_of (show 0 < k by omega)
    simp only [impl_parents.l1]
    rw [if_neg (by omega)]
    refine congrArg some (ext_getD 0 (by rw [pars_len, hp.1]) fun c hc => ?_)
    rw [hp.1] at hc
    rw [pars_at l c hc, hp.2 c hc, show i = l.length by omega]
  | succ d ih =>
    intro k i p hi hk hp
    obtain ⟨k, rfl⟩ := succ_of (show 0 < k by omega)
    have ha := arity_le (nd l i).f0
    simp only [impl_parents.l1]
    rw [if_pos (by omega), if_pos (by omega), if_pos (by omega), rd_nd, impl_kids k (by omega)]
    simp only [Option.bind_some]
    rw [kids_len]
    obtain ⟨k1, rfl⟩ : ∃ k1, k = k1 + arityN (nd l i).f0 + 1 := ⟨k - arityN (nd l i).f0 - 1, by omega⟩
    obtain ⟨p', h1, h2, h3⟩ := impl_par_l2 h i (by omega) (arityN (nd l i).f0) k1 0 p (by omega) hp.1
    refine Eq.trans h3 (ih k1 (i + 1) p' (by omega) (by omega) ⟨h1, fun c hc => ?_⟩)
    rw [h2 c hc, hp.2 c hc]
    rfl
theorem impl_par_l0 {l : List Nd} (h : nodesOkB l = true) (d : Nat) : ∀ (k i : Nat) (p : List Int), i + d = l.length → 7 * l.length + d + 30 < k → p.length = l.length → (∀ c, c < i → p.getD c 0 = -1) → impl_parents.l0 k l p l.length i = some (pars l) := by
  have hlen := ok_len h
  induction d with
  | zero =>
    intro k i p hi hk hp hc
    obtain ⟨k, rfl⟩ := succ_of (show 0 < k by omega)
    simp only [impl_parents.l0]
    rw [if_neg (by omega)]
    exact impl_par_l1 h l.length k 0 p (by omega) (by omega) ⟨hp, fun c hc' => by rw [hc c (by omega)]; rfl⟩
  | succ d ih =>
    intro k i p hi hk hp hc
    obtain ⟨k, rfl⟩ := succ_of (show 0 < k by omega)
    simp only [impl_parents.l0]
    rw [if_pos (by omega), if_pos (by omega), if_pos (by omega), w64 (by omega) (by omega), Int.toNat_natCast]
    refine ih k (i + 1) _ (by omega) (by omega) (by simpa using hp) fun c hc' => ?_
    by_cases hci : c = i
    · subst hci; rw [set_getD_eq _ _ _ _ (by omega)]
    · rw [set_getD_ne _ _ _ _ _ (by omega)]; exact hc c (by omega)
theorem impl_pars {l : List Nd} (h : nodesOkB l = true) (k : Nat) (hk : 2000 ≤ k) : impl_parents.f k l = some (pars l) := by
  have hlen := ok_len h
  unfold impl_parents.f
  rw [if_pos (by omega), if_pos (by omega)]
  simp only [Option.bind_some, List.length_replicate, Int.toNat_natCast]
  exact impl_par_l0 h l.length k 0 _ (by omega) (by omega) (by simp) (fun c hc => by omega)
theorem rd_pars {l : List Nd} (h : nodesOkB l = true) (c : Nat) (hc : c < l.length) : rd (pars l) (c : Int) = parOf l c := by
  rw [rd_nat, pars_at l c hc]
  exact last_par h c l.length (Nat.le_refl _) (fun x h1 h2 => by omega)
def funB (n : Nd) : Bool := n.f0 == 3 || n.f0 == 6
theorem spec_lambda (n : Nd) : spec_l16Lambda.f n.f0 n.f1 n.f2 n.f3 n.f4 n.f5 n.f6 = some (funB n) := by
  unfold spec_l16Lambda.f funB
  by_cases h : n.f0 = 3
  · simp [h]
  · rw [if_neg h, beq_false_of_ne h]; rfl
theorem impl_isFun (l : List Nd) (i : Nat) (hi : i < l.length) : impl_isFun.f l (i : Int) = some (funB (nd l i)) := by
  unfold impl_isFun.f funB
  rw [if_pos (by omega), if_pos (by omega), rd_nd]
  by_cases h : (nd l i).f0 = 3
  · simp [h]
  · rw [if_neg h, beq_false_of_ne h]; rfl
end Go.Proofs.YtfmlamheflbgdaaDoor.UNode
end
section
namespace Go.Proofs.YtfmlamheflbgdaaDoor.UNode
open Go.RowKit Go.Proofs.YtfmlamheflbgdaaDoor.PAll Go.Proofs.YtfmlamheflbgdaaDoorW.PrintWords Go.Proofs.YtfmlamheflbgdaaDoorW.PrintLast Go.Proofs.YtfmlamheflbgdaaDoor.UBase
def bindN (n : Nd) (x : Int) : List ByteArray × List Int :=
  if n.f0 = 3 then ([n.f5], [0]) else if n.f0 = 5 ∨ n.f0 = 19 then (if x = n.f2 then ([n.f5], [0]) else ([], []))
  else if n.f0 = 6 then (if x = n.f1 then ([n.f6, n.f5], [1, 0]) else ([n.f5], [0])) else if n.f0 = 14 then (if x = n.f3 then ([n.f6, n.f5], [1, 0]) else ([], [])) else ([], [])
theorem bind_len (n : Nd) (x : Int) : (bindN n x).2.length = (bindN n x).1.length ∧ (bindN n x).1.length ≤ 2 := by
  unfold bindN
  repeat' split
  all_goals simp
theorem spec_bound (n : Nd) (x : Int) (k : Nat) (hk : 1 ≤ k) : spec_l6Bound.f k n.f0 n.f1 n.f2 n.f3 n.f4 n.f5 n.f6 x = some (bindN n x) := by
  obtain ⟨k, rfl⟩ := succ_of (show 0 < k by omega)
  unfold spec_l6Bound.f bindN
  simp only [spec_l6Bound.j0]
  by_cases h3 : n.f0 = 3
  · simp [h3]
  by_cases h5 : n.f0 = 5
  · by_cases hx : x = n.f2 <;> simp [h5, hx]
  by_cases h19 : n.f0 = 19
  · by_cases hx : x = n.f2 <;> simp [h19, hx]
  by_cases h6 : n.f0 = 6
  · by_cases hx : x = n.f1 <;> simp [h6, hx]
  by_cases h14 : n.f0 = 14
  · by_cases hx : x = n.f3 <;> simp [h14, hx]
  simp [h3, h5, h19, h6, h14]
theorem impl_bound (n : Nd) (x : Int) (k : Nat) (hk : 3 ≤ k) : impl_bindsIn.f k n.f0 n.f1 n.f2 n.f3 n.f4 n.f5 n.f6 x = some (bindN n x) := by
  obtain ⟨k, rfl⟩ : ∃ m, k = m + 3 := ⟨k - 3, by omega⟩
  unfold impl_bindsIn.f bindN
  simp only [impl_bindsIn.j0, impl_bindsIn.j1, impl_bindsIn.j2]
  by_cases h3 : n.f0 = 3
  · simp [h3]
  by_cases h5 : n.f0 = 5
  · by_cases hx : x = n.f2 <;> simp [h5, hx]
  by_cases h19 : n.f0 = 19
  · by_cases hx : x = n.f2 <;> simp [h19, hx]
  by_cases h6 : n.f0 = 6
  · by_cases hx : x = n.f1 <;> simp [h6, hx]
  by_cases h14 : n.f0 = 14
  · by_cases hx : x = n.f3 <;> simp [h14, hx]
  simp [h3, h5, h19, h6, h14]
def roleFrom (ns : List ByteArray) (rs : List Int) (s : ByteArray) : Nat → Nat → Option Int
  | 0, _ => none
  | e + 1, j => if (ns.getD j ByteArray.empty).toList = s.toList then some (rd rs (j : Int)) else roleFrom ns rs s e (j + 1)
def roleB (n : Nd) (x : Int) (s : ByteArray) : Option Int := roleFrom (bindN n x).1 (bindN n x).2 s (bindN n x).1.length 0
def binderUp (l : List Nd) (s : ByteArray) : Nat → Int → Int → Int × Int
  | 0, _, _ => (-1, -1)
  | d + 1, x, p => if p ≥ 0 then (match roleB (nd l p.toNat) x s with | some r => (p, r) | none => binderUp l s d p (parOf l p)) else (-1, -1)
theorem binderUp_stop (l : List Nd) (s : ByteArray) (d : Nat) (x p : Int) (h : p < 0) : binderUp l s d x p = (-1, -1) := by
  cases d with
  | zero => rfl
  | succ d => simp only [binderUp]; rw [if_neg (by omega)]
theorem spec_role (l : List Nd) (i : Nat) (hi : i < l.length) (q x : Int) (n : Nd) (u v : Int) (e : Nat) : ∀ (k j : Nat), j + e = (bindN n x).1.length →
    spec_BinderOf.l1 (k + e + 1) l i q (bindN n x).1 (bindN n x).2 j u v = (match roleFrom (bindN n x).1 (bindN n x).2 (nd l i).f5 e j with | some r => some (q, r) | none => (spec_ParentOf.f k l q).bind fun t => spec_BinderOf.l0 k l i q t u v) := by
  have hb := bind_len n x
  induction e with
  | zero =>
    intro k j hj
    simp only [spec_BinderOf.l1, roleFrom]
    rw [if_neg (by omega)]
  | succ e ih =>
    intro k j hj
    have hr := ih k (j + 1) (by omega)
    obtain ⟨z, hz⟩ : ∃ z, z = k + e + 1 := ⟨_, rfl⟩
    rw [← hz] at hr
    rw [show k + (e + 1) + 1 = z + 1 by omega]
    simp only [spec_BinderOf.l1, roleFrom]
    rw [if_pos (by omega), if_pos (by omega), if_pos (by omega), if_pos (by omega), rd_nd, rdOf_nat, if_pos (show (j : Int) < ((bindN n x).2.length : Int) by omega), w64 (by omega) (by omega)]
    by_cases h : ((bindN n x).1.getD j ByteArray.empty).toList = (nd l i).f5.toList
    · rw [if_pos h, if_pos h]
    · rw [if_neg h, if_neg h]
      exact hr
theorem spec_up {l : List Nd} (h : nodesOkB l = true) (hsm : ∀ i, i < l.length → small (nd l i)) (i : Nat) (hi : i < l.length) (d : Nat) : ∀ (k : Nat) (x p : Int), 1050000 + 5 * d ≤ k → p < l.length → l.length ≤ p + d ∨ p < 0 → 0 < d → spec_BinderOf.l0 k l i x p (-1) (-1) = some (binderUp l (nd l i).f5 d x p) := by
  induction d with
  | zero => intro k x p hk hp hd h0; omega
  | succ d ih =>
    intro k x p hk hp hd h0
    obtain ⟨k, rfl⟩ := succ_of (show 0 < k by omega)
    simp only [spec_BinderOf.l0, binderUp]
    by_cases hp0 : p ≥ 0
    · have hq := parOf_gt h p
      have hq' := parOf_lt l p
      have hb := bind_len (nd l p.toNat) x
      rw [if_pos hp0, if_pos hp0, if_pos (show p < (l.length : Int) by omega), if_pos hp0, rd_ndI, spec_bound _ _ k (by omega)]
      simp only [Option.bind_some]
      obtain ⟨k1, rfl⟩ : ∃ k1, k = k1 + (bindN (nd l p.toNat) x).1.length + 1 := ⟨k - (bindN (nd l p.toNat) x).1.length - 1, by omega⟩
      have hr := spec_role l i hi p x (nd l p.toNat) (-1) (-1) (bindN (nd l p.toNat) x).1.length k1 0 (by omega)
      refine Eq.trans hr ?_
      unfold roleB
      cases hro : roleFrom (bindN (nd l p.toNat) x).1 (bindN (nd l p.toNat) x).2 (nd l i).f5 (bindN (nd l p.toNat) x).1.length 0 with
      | some r => rfl
      | none =>
        show ((spec_ParentOf.f k1 l p).bind fun t => spec_BinderOf.l0 k1 l i p t (-1) (-1)) = some (binderUp l (nd l i).f5 d p (parOf l p))
        rw [spec_par h hsm p k1 (by omega)]
        simp only [Option.bind_some]
        by_cases hd0 : d = 0
        · subst hd0
          have e : parOf l p = -1 := by omega
          rw [e, binderUp_stop _ _ _ _ _ (by omega)]
          obtain ⟨k2, rfl⟩ := succ_of (show 0 < k1 by omega)
          simp only [spec_BinderOf.l0]
          rw [if_neg (by omega)]
        · exact ih k1 p (parOf l p) (by omega) hq' (by omega) (by omega)
    · rw [if_neg hp0, if_neg hp0]
def binderB (l : List Nd) (i : Nat) : Int × Int := if (nd l i).f0 = 1 then binderUp l (nd l i).f5 (l.length + 1) i (parOf l i) else (-1, -1)
theorem spec_binder {l : List Nd} (h : nodesOkB l = true) (hsm : ∀ i, i < l.length → small (nd l i)) (i : Nat) (hi : i < l.length) (k : Nat) (hk : 1060000 ≤ k) : spec_BinderOf.f k l i = some (binderB l i) := by
  have hlen := ok_len h
  obtain ⟨k, rfl⟩ := succ_of (show 0 < k by omega)
  unfold spec_BinderOf.f binderB
  rw [spec_nodesOk l (by omega) hsm _ (by omega), spec_inB, w64 (by omega) (by omega)]
  have hin : inB (i : Int) 0 ((l.length : Int) - 1) = true := by unfold inB; simp; omega
  simp only [Option.bind_some]
  rw [if_pos h, if_pos hin, if_pos (by omega), if_pos (by omega), rd_nd]
  simp only [spec_BinderOf.j0]
  by_cases h1 : (nd l i).f0 = 1
  · have hb : ((nd l i).f0 != 1) = false := by simp [h1]
    rw [hb, if_pos h1, if_neg (by simp), spec_par h hsm _ k (by omega)]
    simp only [Option.bind_some]
    have hg := parOf_gt h i
    exact spec_up h hsm i hi (l.length + 1) k i (parOf l i) (by omega) (parOf_lt l i) (by omega) (by omega)
  · have hb : ((nd l i).f0 != 1) = true := by simp [h1]
    rw [hb, if_pos rfl, if_neg h1]
theorem impl_role {l : List Nd} (h : nodesOkB l = true) (c : Nat) (hc : c < l.length) (n : Nd) (x : Int) (s : ByteArray) (e : Nat) : ∀ (k j : Nat), j + e = (bindN n x).1.length →
    impl_binderOf.l1 (k + e + 1) l (pars l) c s (bindN n x).2 (bindN n x).1 (bindN n x).1.length j = (match roleFrom (bindN n x).1 (bindN n x).2 s e j with | some r => some (parOf l c, r) | none => impl_binderOf.l0 k l (pars l) (parOf l c) s) := by
  have hb := bind_len n x
  have hpl := pars_len l
  induction e with
  | zero =>
    intro k j hj
    simp only [impl_binderOf.l1, roleFrom]
    rw [if_neg (by omega), if_pos (by omega), if_pos (by omega), rd_pars h c hc]
  | succ e ih =>
    intro k j hj
    have hr := ih k (j + 1) (by omega)
    obtain ⟨z, hz⟩ : ∃ z, z = k + e + 1 := ⟨_, rfl⟩
    rw [← hz] at hr
    rw [show k + (e + 1) + 1 = z + 1 by omega]
    simp only [impl_binderOf.l1, roleFrom]
    rw [if_pos (by omega), if_pos (by omega), if_pos (by omega), if_pos (show (0 : Int) ≤ (c : Int) by omega), if_pos (show (c : Int) < ((pars l).length : Int) by omega), if_pos (show (j : Int) < ((bindN n x).2.length : Int) by omega), rdOf_nat, rd_pars h c hc, w64 (by omega) (by omega)]
    by_cases hh : ((bindN n x).1.getD j ByteArray.empty).toList = s.toList
    · rw [if_pos hh, if_pos hh]
    · rw [if_neg hh, if_neg hh]
      exact hr
theorem impl_up {l : List Nd} (h : nodesOkB l = true) (s : ByteArray) (d : Nat) : ∀ (k : Nat) (x : Nat), 10 + 5 * d ≤ k → x < l.length → l.length ≤ parOf l x + d ∨ parOf l x < 0 → 0 < d → impl_binderOf.l0 k l (pars l) x s = some (binderUp l s d x (parOf l x)) := by
  induction d with
  | zero => intro k x hk hx hd h0; omega
  | succ d ih =>
    intro k x hk hx hd h0
    obtain ⟨k, rfl⟩ := succ_of (show 0 < k by omega)
    have hpl := pars_len l
    simp only [impl_binderOf.l0, binderUp]
    rw [if_pos (show (0 : Int) ≤ (x : Int) by omega), if_pos (show (x : Int) < ((pars l).length : Int) by omega), rd_pars h x hx]
    have hp' := parOf_lt l x
    by_cases hp0 : parOf l x ≥ 0
    · have hb := bind_len (nd l (parOf l x).toNat) x
      rw [if_pos hp0, if_pos hp0, if_pos hp', if_pos hp0, rd_ndI, impl_bound _ _ k (by omega)]
      simp only [Option.bind_some]
      obtain ⟨k1, rfl⟩ : ∃ k1, k = k1 + (bindN (nd l (parOf l x).toNat) x).1.length + 1 := ⟨k - (bindN (nd l (parOf l x).toNat) x).1.length - 1, by omega⟩
      have hr := impl_role h x hx (nd l (parOf l x).toNat) x s (bindN (nd l (parOf l x).toNat) x).1.length k1 0 (by omega)
      refine Eq.trans hr ?_
      unfold roleB
      cases hro : roleFrom (bindN (nd l (parOf l x).toNat) x).1 (bindN (nd l (parOf l x).toNat) x).2 s (bindN (nd l (parOf l x).toNat) x).1.length 0 with
      | some r => rfl
      | none =>
        show impl_binderOf.l0 k1 l (pars l) (parOf l x) s = some (binderUp l s d (parOf l x) (parOf l (parOf l x)))
        obtain ⟨q, hq⟩ : ∃ q : Nat, parOf l x = (q : Int) := ⟨(parOf l x).toNat, by omega⟩
        rw [hq] at hp' hd ⊢
        have hg := parOf_gt h q
        have hg' := parOf_lt l q
        by_cases hd0 : d = 0
        · subst hd0
          have e : parOf l q = -1 := by omega
          rw [e, binderUp_stop _ _ _ _ _ (by omega)]
          obtain ⟨k2, rfl⟩ := succ_of (show 0 < k1 by omega)
          simp only [impl_binderOf.l0]
          rw [if_pos (show (0 : Int) ≤ (q : Int) by omega), if_pos (show (q : Int) < ((pars l).length : Int) by omega), rd_pars h q (by omega), e, if_neg (by omega)]
        · exact ih k1 q (by omega) (by omega) (by omega) (by omega)
    · rw [if_neg hp0, if_neg hp0]
def bindersFrom (l : List Nd) : Nat → Nat → List S59
  | 0, _ => []
  | d + 1, i => ⟨(binderB l i).1, (binderB l i).2⟩ :: bindersFrom l d (i + 1)
def bindersL (l : List Nd) : List S59 := bindersFrom l l.length 0
theorem bindersFrom_len (l : List Nd) (d : Nat) : ∀ i, (bindersFrom l d i).length = d := by
  induction d with
  | zero => intro i; rfl
  | succ d ih => intro i; simp [bindersFrom, ih]
theorem bindersFrom_at (l : List Nd) (d : Nat) : ∀ i j, j < d → (bindersFrom l d i).getD j z59 = ⟨(binderB l (i + j)).1, (binderB l (i + j)).2⟩ := by
  induction d with
  | zero => intro i j hj; omega
  | succ d ih =>
    intro i j hj
    cases j with
    | zero => simp [bindersFrom]
    | succ j =>
      have := ih (i + 1) j (by omega)
      simp only [bindersFrom, List.getD_cons_succ]
      rw [this, show i + 1 + j = i + (j + 1) by omega]
theorem bindersL_len (l : List Nd) : (bindersL l).length = l.length := bindersFrom_len l _ _
theorem bindersL_at (l : List Nd) (j : Nat) (hj : j < l.length) : (bindersL l).getD j z59 = ⟨(binderB l j).1, (binderB l j).2⟩ := by
  have := bindersFrom_at l l.length 0 j hj
  rwa [Nat.zero_add] at this
theorem impl_binders_l0 {l : List Nd} (h : nodesOkB l = true) (d : Nat) : ∀ (k i : Nat) (y : List S59), i + d = l.length → 1000 + d ≤ k → y.length + d ≤ 4000000 → impl_binders.l0 k l (pars l) y l l.length i = some (y ++ bindersFrom l d i) := by
  have hlen := ok_len h
  induction d with
  | zero =>
    intro k i y hi hk hy
    obtain ⟨k, rfl⟩ := succ_of (show 0 < k by omega)
    simp only [impl_binders.l0, bindersFrom]
    rw [if_neg (by omega), List.append_nil]
  | succ d ih =>
    intro k i y hi hk hy
    obtain ⟨k, rfl⟩ := succ_of (show 0 < k by omega)
    simp only [impl_binders.l0, bindersFrom]
    rw [if_pos (by omega), if_pos (by omega), if_pos (by omega), rd_nd, w64 (by omega) (by omega)]
    unfold binderB
    by_cases h1 : (nd l i).f0 = 1
    · have hg := parOf_gt h i
      rw [if_pos h1, if_pos h1]
      unfold impl_binderOf.f
      rw [impl_up h (nd l i).f5 (l.length + 1) k i (by omega) (by omega) (by omega) (by omega)]
      simp only [Option.bind_some]
      rw [if_pos (by omega)]
      have := ih k (i + 1) (y ++ [⟨(binderUp l (nd l i).f5 (l.length + 1) i (parOf l i)).1, (binderUp l (nd l i).f5 (l.length + 1) i (parOf l i)).2⟩]) (by omega) (by omega) (by simp; omega)
      rw [List.append_assoc] at this
      exact this
    · rw [if_neg h1, if_neg h1, if_pos (by omega)]
      have := ih k (i + 1) (y ++ [⟨-1, -1⟩]) (by omega) (by omega) (by simp; omega)
      rw [List.append_assoc] at this
      exact this
theorem impl_bindersL {l : List Nd} (h : nodesOkB l = true) (k : Nat) (hk : 3000 ≤ k) : impl_binders.f k l = some (bindersL l) := by
  have hlen := ok_len h
  unfold impl_binders.f bindersL
  rw [impl_pars h k (by omega)]
  simp only [Option.bind_some]
  exact impl_binders_l0 h l.length k 0 [] (by omega) (by omega) (by simp; omega)
end Go.Proofs.YtfmlamheflbgdaaDoor.UNode
end
section
namespace Go.Proofs.YtfmlamheflbgdaaDoor.UNode
open Go.RowKit Go.Proofs.YtfmlamheflbgdaaDoor.PAll Go.Proofs.YtfmlamheflbgdaaDoorW.PrintWords Go.Proofs.YtfmlamheflbgdaaDoorW.PrintLast Go.Proofs.YtfmlamheflbgdaaDoor.UBase
def startsL (l : List Nd) : List Int := (startsGo l l.length 0 []).getD []
theorem startsL_ok {l : List Nd} (h : nodesOkB l = true) : startsGo l l.length 0 [] = some (startsL l) ∧ Starts (startsL l) l.length ∧ ∀ x : Nat, x < l.length → down (startsL l) (kids (nd l x)) (arityN (nd l x).f0) x = some (rd (startsL l) (x : Int)) := by
  unfold nodesOkB at h
  cases hg : startsGo l l.length 0 [] with
  | none => rw [hg] at h; simp at h
  | some t =>
    have e : startsL l = t := by unfold startsL; rw [hg]; rfl
    rw [e]
    exact ⟨rfl, starts_go l.length 0 [] t (by omega) starts_nil hg, fun x hx => (go_starts l.length 0 [] t (by omega) starts_nil hg).2 x (by omega) hx⟩
theorem st_le {l : List Nd} (h : nodesOkB l = true) (x : Nat) (hx : x < l.length) : 0 ≤ rd (startsL l) (x : Int) ∧ rd (startsL l) (x : Int) ≤ x := by
  rw [rd_nat]
  exact (startsL_ok h).2.1.2 x hx
theorem down_first {t ks : List Int} {i : Nat} (hs : Starts t i) (j : Nat) : ∀ (a b : Int), 0 ≤ a → a ≤ i → down t ks (j + 1) a = some b → b = rd t (rd ks 0) := by
  induction j with
  | zero =>
    intro a b h0 h1 h
    simp only [down] at h
    split at h
    · rename_i hc
      cases h
      have := hc.1
      rw [← this]
      rfl
    · cases h
  | succ j ih =>
    intro a b h0 h1 h
    rw [down] at h
    split at h
    · rename_i hc
      obtain ⟨q, hq⟩ : ∃ q : Nat, a - 1 = (q : Int) := ⟨(a - 1).toNat, by omega⟩
      have hb := hs.2 q (by omega)
      rw [hq, rd_nat] at h
      exact ih _ b hb.1 (by omega) h
    · cases h
theorem kid0 (n : Nd) (h : 0 < arityN n.f0) : rd (kids n) 0 = n.f1 := by
  obtain ⟨m, hm⟩ := succ_of h
  unfold kids
  rw [hm]
  rfl
theorem start_step {l : List Nd} (h : nodesOkB l = true) (x : Nat) (hx : x < l.length) (ha : 0 < arityN (nd l x).f0) : rd (startsL l) (x : Int) = rd (startsL l) (nd l x).f1 ∧ 0 ≤ (nd l x).f1 ∧ (nd l x).f1 < x := by
  have hd := (startsL_ok h).2.2 x hx
  have hk := ok_kids h x hx 0 ha
  rw [show ((0 : Nat) : Int) = 0 from rfl, kid0 _ ha] at hk
  obtain ⟨m, hm⟩ := succ_of ha
  rw [hm] at hd
  have := down_first (startsL_ok h).2.1 m x _ (by omega) (by omega) hd
  rw [kid0 _ ha] at this
  exact ⟨this, hk⟩
theorem start_leaf {l : List Nd} (h : nodesOkB l = true) (x : Nat) (hx : x < l.length) (ha : arityN (nd l x).f0 = 0) : rd (startsL l) (x : Int) = x := by
  have hd := (startsL_ok h).2.2 x hx
  rw [ha] at hd
  simp only [down] at hd
  exact (Option.some.inj hd).symm
theorem impl_start {l : List Nd} (h : nodesOkB l = true) (x : Nat) : x < l.length → ∀ k, x + 4 ≤ k → impl_startOf.l0 k l x = some (rd (startsL l) (x : Int)) := by
  induction x using Nat.strongRecOn with
  | ind x ih =>
    intro hx k hk
    obtain ⟨k, rfl⟩ := succ_of (show 0 < k by omega)
    simp only [impl_startOf.l0]
    rw [if_pos (by omega), if_pos (by omega), rd_nd, impl_arity k (by omega)]
    simp only [Option.bind_some]
    by_cases ha : arityN (nd l x).f0 = 0
    · rw [if_neg (by omega), start_leaf h x hx ha]
    · obtain ⟨e, h0, h1⟩ := start_step h x hx (by omega)
      obtain ⟨q, hq⟩ : ∃ q : Nat, (nd l x).f1 = (q : Int) := ⟨(nd l x).f1.toNat, by omega⟩
      rw [if_pos (by omega), e, hq]
      exact ih q (by omega) (by omega) k (by omega)
theorem spec_start {l : List Nd} (h : nodesOkB l = true) (hsm : ∀ i, i < l.length → small (nd l i)) (x : Nat) (hx : x < l.length) (k : Nat) (hk : 1050000 ≤ k) : spec_StartOf.f k l x = some (rd (startsL l) (x : Int)) := by
  have hlen := ok_len h
  obtain ⟨hg, hs, _⟩ := startsL_ok h
  unfold spec_StartOf.f
  rw [spec_nodesOk l (by omega) hsm _ (by omega), spec_inB, w64 (by omega) (by omega)]
  have hin : inB (x : Int) 0 ((l.length : Int) - 1) = true := by unfold inB; simp; omega
  simp only [Option.bind_some]
  have e : spec_l3Starts.f k l = (match startsGo l l.length 0 [] with | none => some ([], false) | some t => some (t, true)) := spec_starts hlen.2 hsm l.length k 0 [] (by omega) (by omega) starts_nil
  rw [if_pos h, if_pos hin, e, hg]
  simp only [Option.bind_some]
  rw [if_pos (by omega), if_pos (by rw [hs.1]; omega)]
theorem par_eq {l : List Nd} (h : nodesOkB l = true) (c : Int) (x : Nat) (hx : x < l.length) (hk : hasKid (nd l x) c = true) : parOf l c = x := by
  refine parFrom_at l c x hk l.length 0 (fun y _ hy => ?_) (by omega) (by omega)
  cases hh : hasKid (nd l y) c with
  | false => rfl
  | true =>
    obtain ⟨m, h1, h2⟩ := (hasKid_iff _ _).1 hh
    obtain ⟨m', h3, h4⟩ := (hasKid_iff _ _).1 hk
    have := one_parent h (show y < l.length by omega) hx h1 h3 (h2.trans h4.symm)
    omega
theorem par_in {l : List Nd} (h : nodesOkB l = true) (A : Nat) : A < l.length → ∀ i : Nat, rd (startsL l) (A : Int) ≤ i → i < A → (i : Int) < parOf l i ∧ parOf l i ≤ A := by
  induction A using Nat.strongRecOn with
  | ind A ih =>
    intro hA i h0 h1
    obtain ⟨m, k1, k2, k3, k4, k5⟩ := down_tile (startsL_ok h).2.1 _ _ _ (by omega) (by omega) ((startsL_ok h).2.2 A hA) i h0 (by omega)
    have hk := ok_kids h A hA m k1
    obtain ⟨q, hq⟩ : ∃ q : Nat, rd (kids (nd l A)) (m : Int) = (q : Int) := ⟨(rd (kids (nd l A)) (m : Int)).toNat, by omega⟩
    by_cases hi : i = q
    · have : hasKid (nd l A) i = true := (hasKid_iff _ _).2 ⟨m, k1, by omega⟩
      rw [par_eq h i A hA this]
      omega
    · rw [hq] at k2 k3 k4
      have := ih q (by omega) (by omega) i k2 (by omega)
      omega
theorem up_ge {l : List Nd} (h : nodesOkB l = true) (s : ByteArray) (d : Nat) : ∀ x p : Int, (binderUp l s d x p).1 = -1 ∨ p ≤ (binderUp l s d x p).1 := by
  induction d with
  | zero => intro x p; exact .inl rfl
  | succ d ih =>
    intro x p
    simp only [binderUp]
    split
    · split
      · exact .inr (Int.le_refl _)
      · have hg := parOf_gt h p
        rcases ih p (parOf l p) with h1 | h1
        · exact .inl h1
        · rcases hg with h2 | h2
          · rw [h2, binderUp_stop _ _ _ _ _ (by omega)]
            exact .inl rfl
          · exact .inr (by omega)
    · exact .inl rfl
theorem up_in {l : List Nd} (h : nodesOkB l = true) (s : ByteArray) (A f : Nat) (hA : A < l.length) (hf : parOf l A = f) (d : Nat) : ∀ x : Nat, rd (startsL l) (A : Int) ≤ x → x ≤ A → (binderUp l s d x (parOf l x)).1 = -1 ∨ (rd (startsL l) (A : Int) ≤ (binderUp l s d x (parOf l x)).1 ∧ (binderUp l s d x (parOf l x)).1 ≤ A) ∨ f ≤ (binderUp l s d x (parOf l x)).1 := by
  induction d with
  | zero => intro x _ _; exact .inl rfl
  | succ d ih =>
    intro x h0 h1
    by_cases hx : x = A
    · subst hx
      rcases up_ge h s (d + 1) x (parOf l x) with h2 | h2
      · exact .inl h2
      · exact .inr (.inr (by omega))
    · have hp := par_in h A hA x h0 (by omega)
      obtain ⟨q, hq⟩ : ∃ q : Nat, parOf l x = (q : Int) := ⟨(parOf l x).toNat, by omega⟩
      rw [hq] at hp ⊢
      simp only [binderUp]
      rw [if_pos (by omega)]
      split
      · exact .inr (.inl ⟨by show _ ≤ (q : Int); omega, by show (q : Int) ≤ _; omega⟩)
      · exact ih q (by omega) (by omega)
theorem binder_in {l : List Nd} (h : nodesOkB l = true) (A f : Nat) (hA : A < l.length) (hf : parOf l A = f) (x : Nat) (h0 : rd (startsL l) (A : Int) ≤ x) (h1 : x ≤ A) : (binderB l x).1 = -1 ∨ (rd (startsL l) (A : Int) ≤ (binderB l x).1 ∧ (binderB l x).1 ≤ A) ∨ f ≤ (binderB l x).1 := by
  unfold binderB
  split
  · exact up_in h _ A f hA hf _ x h0 h1
  · exact .inl rfl
abbrev Bi := S59
def anyFrom (y : List Bi) (u v : Int) : Nat → Nat → Bool
  | 0, _ => false
  | e + 1, j => ((y.getD j z59).f0 == u && (y.getD j z59).f1 == v) || anyFrom y u v e (j + 1)
def skipB (f A t r : Int) (b : Int × Int) : Bool := decide (b.1 < 0) || ((decide (t ≤ b.1) && decide (b.1 ≤ A)) || (b.1 == f && b.2 == r))
def outerFrom (l : List Nd) (f A t r : Int) : Nat → Nat → List Bi → List Bi
  | 0, _, y => y
  | d + 1, i, y => if (skipB f A t r (binderB l i) || anyFrom y (binderB l i).1 (binderB l i).2 y.length 0) = true then outerFrom l f A t r d (i + 1) y else outerFrom l f A t r d (i + 1) (y ++ [⟨(binderB l i).1, (binderB l i).2⟩])
theorem rd_bi (y : List Bi) (i : Nat) : rd_T59 y (i : Int) = y.getD i z59 := by
  unfold rd_T59
  rw [Int.toNat_natCast]
def roleP (n : Nd) : Int := if n.f0 = 6 then 1 else 0
theorem outer_len (l : List Nd) (f A t r : Int) (d : Nat) : ∀ i y, (outerFrom l f A t r d i y).length ≤ y.length + d := by
  induction d with
  | zero => intro i y; exact Nat.le_refl _
  | succ d ih =>
    intro i y
    simp only [outerFrom]
    split
    · have := ih (i + 1) y; omega
    · have := ih (i + 1) (y ++ [⟨(binderB l i).1, (binderB l i).2⟩])
      simp at this
      omega
theorem spec_has_l1 (l : List Nd) (f i : Int) (y : List Bi) (u v : Int) (hy : y.length ≤ 4000000) (e : Nat) : ∀ (k j : Nat) (b : Bool), j + e = y.length →
    spec_OuterOf.l1 (k + e + 1) l f y i b j u v = (if (b || anyFrom y u v e j) = true then spec_OuterOf.l0 k l f y (wrap64 (i + 1)) else spec_OuterOf.l0 k l f (y ++ [⟨u, v⟩]) (wrap64 (i + 1))) := by
  induction e with
  | zero =>
    intro k j b hj
    simp only [spec_OuterOf.l1, anyFrom, Bool.or_false]
    rw [if_neg (by omega)]
    cases b with
    | true => rw [if_pos rfl, if_pos rfl]
    | false => rw [if_neg (show ¬ (false = true) by simp), if_neg (show ¬ (false = true) by simp), if_pos (show y.length < 8796093022208 by omega)]
  | succ e ih =>
    intro k j b hj
    obtain ⟨z, hz⟩ : ∃ z, z = k + e + 1 := ⟨_, rfl⟩
    rw [show k + (e + 1) + 1 = z + 1 by omega]
    simp only [spec_OuterOf.l1, anyFrom]
    rw [if_pos (by omega), if_pos (show (0 : Int) ≤ (j : Int) by omega), rd_bi, w64 (by omega) (by omega)]
    cases b with
    | true =>
      have hr := ih k (j + 1) true (by omega)
      rw [← hz] at hr
      rw [if_pos rfl]
      refine Eq.trans hr ?_
      simp
    | false =>
      have hr := ih k (j + 1) ((y.getD j z59).f0 == u && (y.getD j z59).f1 == v) (by omega)
      rw [← hz] at hr
      rw [if_neg (by simp)]
      refine Eq.trans hr ?_
      simp
theorem impl_has_l1 (l : List Nd) (bs : List Bi) (f t A i : Int) (y : List Bi) (u v : Int) (hy : y.length ≤ 4000000) (e : Nat) : ∀ (k j : Nat) (b : Bool), j + e = y.length →
    impl_outerOf.l1 (k + e + 1) l bs f t A y i b y y.length j u v = (if (b || anyFrom y u v e j) = true then impl_outerOf.l0 k l bs f t A y (wrap64 (i + 1)) else impl_outerOf.l0 k l bs f t A (y ++ [⟨u, v⟩]) (wrap64 (i + 1))) := by
  induction e with
  | zero =>
    intro k j b hj
    simp only [impl_outerOf.l1, anyFrom, Bool.or_false]
    rw [if_neg (by omega)]
    cases b with
    | true => rw [if_pos rfl, if_pos rfl]
    | false => rw [if_neg (show ¬ (false = true) by simp), if_neg (show ¬ (false = true) by simp), if_pos (show y.length < 8796093022208 by omega)]
  | succ e ih =>
    intro k j b hj
    obtain ⟨z, hz⟩ : ∃ z, z = k + e + 1 := ⟨_, rfl⟩
    rw [show k + (e + 1) + 1 = z + 1 by omega]
    simp only [impl_outerOf.l1, anyFrom]
    rw [if_pos (by omega), if_pos (show (0 : Int) ≤ (j : Int) by omega), if_pos (by omega), rd_bi, w64 (by omega) (by omega)]
    cases b with
    | true =>
      have hr := ih k (j + 1) true (by omega)
      rw [← hz] at hr
      rw [if_pos rfl]
      refine Eq.trans hr ?_
      simp
    | false =>
      have hr := ih k (j + 1) ((y.getD j z59).f0 == u && (y.getD j z59).f1 == v) (by omega)
      rw [← hz] at hr
      rw [if_neg (by simp)]
      refine Eq.trans hr ?_
      simp
theorem impl_outer_l0 {l : List Nd} (h : nodesOkB l = true) (f : Nat) (hf : f < l.length) (A : Nat) (hA : A < l.length) (t : Int) (d : Nat) : ∀ (k i : Nat) (y : List Bi), i + d = A + 1 → 1000 + 300 * d ≤ k → y.length + d ≤ 150 →
    impl_outerOf.l0 k l (bindersL l) f t A y i = some (outerFrom l f A t (roleP (nd l f)) d i y) := by
  have hlen := ok_len h
  have hbl := bindersL_len l
  induction d with
  | zero =>
    intro k i y hi hk hy
    obtain ⟨k, rfl⟩ := succ_of (show 0 < k by omega)
    simp only [impl_outerOf.l0, outerFrom]
    rw [if_neg (by omega)]
  | succ d ih =>
    intro k i y hi hk hy
    obtain ⟨k, rfl⟩ := succ_of (show 0 < k by omega)
    have hj : ∀ b : Bool, b = skipB f A t (roleP (nd l f)) (binderB l i) → impl_outerOf.j1 k l (bindersL l) f t A y i b (binderB l i).1 (binderB l i).2 = some (outerFrom l f A t (roleP (nd l f)) (d + 1) i y) := by
      intro b hb
      obtain ⟨k1, rfl⟩ : ∃ k1, k = (k1 + y.length + 1) + 1 := ⟨k - y.length - 2, by omega⟩
      simp only [impl_outerOf.j1, outerFrom]
      refine Eq.trans (impl_has_l1 l (bindersL l) f t A i y (binderB l i).1 (binderB l i).2 (by omega) y.length k1 0 b (by omega)) ?_
      rw [← hb, w64 (by omega) (by omega)]
      split
      · exact ih k1 (i + 1) y (by omega) (by omega) (by omega)
      · exact ih k1 (i + 1) _ (by omega) (by omega) (by simp; omega)
    simp only [impl_outerOf.l0]
    rw [if_pos (by omega), if_pos (show (0 : Int) ≤ (i : Int) by omega), if_pos (by omega), rd_bi, bindersL_at l i (by omega), impl_inB]
    simp only [Option.bind_some]
    by_cases h1 : (binderB l i).1 < 0
    · rw [if_pos h1]
      exact hj true (by simp [skipB, h1])
    · rw [if_neg h1]
      by_cases h2 : inB (binderB l i).1 t A = true
      · rw [if_pos h2]
        refine hj true ?_
        unfold inB at h2
        simp only [Bool.and_eq_true, decide_eq_true_eq] at h2
        simp [skipB, h2]
      · rw [if_neg h2]
        unfold impl_given.f
        rw [if_pos (by omega), if_pos (by omega), rd_nd]
        have h2' : (decide (t ≤ (binderB l i).1) && decide ((binderB l i).1 ≤ A)) = false := by unfold inB at h2; simpa using h2
        by_cases h6 : (nd l f).f0 = 6
        · rw [if_pos h6]
          exact hj _ (by simp only [skipB, roleP, h2', if_pos h6]; simp [h1])
        · rw [if_neg h6]
          exact hj _ (by simp only [skipB, roleP, h2', if_neg h6]; simp [h1])
set_option maxRecDepth 20000 in
theorem spec_outer_l0 {l : List Nd} (h : nodesOkB l = true) (hsm : ∀ i, i < l.length → small (nd l i)) (f : Nat) (hf : f < l.length) (A : Nat) (hA : A < f) (hfa : (nd l f).f1 = A) (hp : parOf l A = f) (d : Nat) : ∀ (k i : Nat) (y : List Bi), i + d = A + 1 → rd (startsL l) (A : Int) ≤ i → 1070000 + 300 * d ≤ k → y.length + d ≤ 150 →
    spec_OuterOf.l0 k l f y i = some (outerFrom l f A (rd (startsL l) (A : Int)) (roleP (nd l f)) d i y) := by
  have hlen := ok_len h
  induction d with
  | zero =>
    intro k i y hi h0 hk hy
    obtain ⟨k, rfl⟩ := succ_of (show 0 < k by omega)
    simp only [spec_OuterOf.l0, outerFrom]
    rw [if_pos (by omega), if_pos (by omega), rd_nd, hfa, if_neg (by omega)]
  | succ d ih =>
    intro k i y hi h0 hk hy
    obtain ⟨k, rfl⟩ := succ_of (show 0 < k by omega)
    have hk1 : 1060000 ≤ k := by omega
    have hst := st_le h A (by omega)
    have hj : ∀ b : Bool, b = skipB f A (rd (startsL l) (A : Int)) (roleP (nd l f)) (binderB l i) → spec_OuterOf.j2 k l f y i b (binderB l i).1 (binderB l i).2 = some (outerFrom l f A (rd (startsL l) (A : Int)) (roleP (nd l f)) (d + 1) i y) := by
      intro b hb
      obtain ⟨k1, rfl⟩ : ∃ k1, k = (k1 + y.length + 1) + 1 := ⟨k - y.length - 2, by omega⟩
      simp only [spec_OuterOf.j2, outerFrom]
      rw [← hb]
      cases b with
      | true =>
        rw [if_pos rfl, if_pos (by simp), w64 (by omega) (by omega)]
        exact ih _ (i + 1) y (by omega) (by omega) (by omega) (by omega)
      | false =>
        rw [if_neg (by simp)]
        refine Eq.trans (spec_has_l1 l f i y (binderB l i).1 (binderB l i).2 (by omega) y.length k1 0 false (by omega)) ?_
        rw [w64 (by omega) (by omega)]
        split
        · exact ih k1 (i + 1) y (by omega) (by omega) (by omega) (by omega)
        · exact ih k1 (i + 1) _ (by omega) (by omega) (by omega) (by simp; omega)
    have hbin := binder_in h A f (by omega) hp i h0 (by omega)
    have hsb := spec_binder h hsm i (by omega) k hk1
    have hss := spec_start h hsm A (by omega) k (Nat.le_trans (by decide) hk1)
    simp only [spec_OuterOf.l0]
    rw [if_pos (by omega), if_pos (by omega), rd_nd, rd_nd, hfa, if_pos (by omega), if_pos (by omega), if_pos (by omega), hsb, hss]
    simp only [Option.bind_some]
    have hpar : spec_l16Param.f (nd l f).f0 (A : Int) (nd l f).f2 (nd l f).f3 (nd l f).f4 (nd l f).f5 (nd l f).f6 = some (roleP (nd l f)) := by
      unfold spec_l16Param.f roleP
      split <;> rfl
    rw [hpar]
    simp only [Option.bind_some]
    by_cases hv : (nd l i).f0 = 1
    · rw [if_pos hv]
      generalize hb : binderB l i = b at hj hbin ⊢
      have hsk : skipB f A (rd (startsL l) (A : Int)) (roleP (nd l f)) b = (decide (b.1 < 0) || ((decide (b.1 < (f : Int)) && decide (rd (startsL l) (A : Int) ≤ b.1)) || (b.1 == f && b.2 == roleP (nd l f)))) := by
        unfold skipB
        congr 2
        rw [Bool.eq_iff_iff]
        simp only [Bool.and_eq_true, decide_eq_true_eq]
        omega
      rw [hsk] at hj
      by_cases c1 : b.1 < (f : Int)
      · have c1' : ¬ b.1 = (f : Int) := by omega
        by_cases c2 : b.1 ≥ 0
        · have c2' : ¬ b.1 < 0 := by omega
          by_cases c3 : b.1 ≥ rd (startsL l) (A : Int)
          · rw [if_pos c1, if_pos c2, if_pos c3]
            exact hj true (by simp [c1, show rd (startsL l) (A : Int) ≤ b.1 from c3])
          · rw [if_pos c1, if_pos c2, if_neg c3, if_neg c2', if_neg c1']
            exact hj false (by simp [c1', c2', show ¬ rd (startsL l) (A : Int) ≤ b.1 from c3])
        · have c2' : b.1 < 0 := by omega
          rw [if_pos c1, if_neg c2, if_pos c2']
          exact hj true (by simp [c2'])
      · have c2' : ¬ b.1 < 0 := by omega
        rw [if_neg c1, if_neg c2']
        by_cases c4 : b.1 = (f : Int)
        · rw [if_pos c4]
          exact hj _ (by simp [c4, show ¬ (f : Int) < 0 by omega])
        · rw [if_neg c4]
          exact hj false (by simp [c1, c2', c4])
    · rw [if_neg hv, w64 (by omega) (by omega)]
      have hbb : binderB l i = (-1, -1) := by unfold binderB; rw [if_neg hv]
      have : outerFrom l f A (rd (startsL l) (A : Int)) (roleP (nd l f)) (d + 1) i y = outerFrom l f A (rd (startsL l) (A : Int)) (roleP (nd l f)) d (i + 1) y := by
        simp only [outerFrom]
        rw [hbb, if_pos (by simp [skipB])]
      rw [this]
      exact ih k (i + 1) y (by omega) (by omega) (by omega) (by omega)
def outerOfL (l : List Nd) (f : Int) : List Bi := outerFrom l f (nd l f.toNat).f1 (rd (startsL l) (nd l f.toNat).f1) (roleP (nd l f.toNat)) ((nd l f.toNat).f1 + 1 - rd (startsL l) (nd l f.toNat).f1).toNat (rd (startsL l) (nd l f.toNat).f1).toNat []
def outerB (l : List Nd) (f : Int) : List Bi := if nodesOkB l = true then (if inB f 0 ((l.length : Int) - 1) = true then (if funB (nd l f.toNat) = true then outerOfL l f else []) else []) else []
theorem fun_arity (n : Nd) (h : funB n = true) : 0 < arityN n.f0 := by
  unfold funB at h
  simp only [Bool.or_eq_true, beq_iff_eq] at h
  rcases h with h | h <;> rw [h] <;> decide
theorem fun_node {l : List Nd} (h : nodesOkB l = true) (f : Nat) (hf : f < l.length) (hfun : funB (nd l f) = true) : ∃ A s : Nat, (nd l f).f1 = A ∧ A < f ∧ rd (startsL l) (A : Int) = s ∧ s ≤ A ∧ parOf l A = f := by
  have ha := fun_arity _ hfun
  obtain ⟨_, h0, h1⟩ := start_step h f hf ha
  obtain ⟨A, hA⟩ : ∃ A : Nat, (nd l f).f1 = (A : Int) := ⟨(nd l f).f1.toNat, by omega⟩
  have hs := st_le h A (by omega)
  refine ⟨A, (rd (startsL l) (A : Int)).toNat, hA, by omega, by omega, by omega, par_eq h A f hf ((hasKid_iff _ _).2 ⟨0, ha, ?_⟩)⟩
  rw [show ((0 : Nat) : Int) = 0 from rfl, kid0 _ ha, hA]
theorem impl_outer (l : List Nd) (a : Int) (hn : l.length ≤ 1048576) (hsm : ∀ i, i < l.length → small (nd l i)) (k : Nat) (hk : 1200000 ≤ k) : impl_OuterOf.f k l a = some (outerB l a) := by
  obtain ⟨k, rfl⟩ := succ_of (show 0 < k by omega)
  unfold impl_OuterOf.f outerB
  rw [impl_nodesOk l hn hsm _ (by omega), impl_inB]
  simp only [Option.bind_some, impl_OuterOf.j0, if_true]
  by_cases h : nodesOkB l = true
  · have hlen := ok_len h
    rw [if_pos h, if_pos h, w64 (by omega) (by omega)]
    by_cases hin : inB a 0 ((l.length : Int) - 1) = true
    · have hr : 0 ≤ a ∧ a ≤ (l.length : Int) - 1 := by unfold inB at hin; simpa using hin
      obtain ⟨f, rfl⟩ : ∃ f : Nat, a = (f : Int) := ⟨a.toNat, by omega⟩
      rw [if_pos hin, if_pos hin, impl_isFun l f (by omega), Int.toNat_natCast]
      simp only [Option.bind_some]
      cases hfun : funB (nd l f) with
      | false => rfl
      | true =>
        obtain ⟨A, s, hA, hAf, hs, hsA, hp⟩ := fun_node h f (by omega) hfun
        show ((impl_binders.f k l).bind fun t432 => ((impl_outerOf.f k l t432 f).bind fun t435 => (some t435))) = some (outerOfL l f)
        rw [impl_bindersL h k (by omega)]
        simp only [Option.bind_some]
        unfold impl_outerOf.f impl_bodyOf.f impl_startOf.f outerOfL
        rw [if_pos (by omega), if_pos (by omega), rd_nd, Int.toNat_natCast, hA, impl_start h A (by omega) k (by omega), hs]
        simp only [Option.bind_some]
        have := impl_outer_l0 h f (by omega) A (by omega) s (A + 1 - s) k s [] (by omega) (by omega) (by simp; omega)
        rw [this]
        simp only [Option.bind_some]
        rw [Int.toNat_natCast, show ((A : Int) + 1 - (s : Int)).toNat = A + 1 - s by omega]
    · rw [if_neg hin, if_neg hin]
  · rw [if_neg h, if_neg h]
theorem spec_outer (l : List Nd) (a : Int) (hn : l.length ≤ 1048576) (hsm : ∀ i, i < l.length → small (nd l i)) (k : Nat) (hk : 1200000 ≤ k) : spec_OuterOf.f k l a = some (outerB l a) := by
  obtain ⟨k, rfl⟩ := succ_of (show 0 < k by omega)
  unfold spec_OuterOf.f outerB
  rw [spec_nodesOk l hn hsm _ (by omega), spec_inB]
  simp only [Option.bind_some, spec_OuterOf.j0, if_true]
  by_cases h : nodesOkB l = true
  · have hlen := ok_len h
    rw [if_pos h, if_pos h, w64 (by omega) (by omega)]
    by_cases hin : inB a 0 ((l.length : Int) - 1) = true
    · have hr : 0 ≤ a ∧ a ≤ (l.length : Int) - 1 := by unfold inB at hin; simpa using hin
      obtain ⟨f, rfl⟩ : ∃ f : Nat, a = (f : Int) := ⟨a.toNat, by omega⟩
      rw [if_pos hin, if_pos hin, if_pos (by omega), if_pos (by omega), rd_nd, spec_lambda, Int.toNat_natCast]
      simp only [Option.bind_some]
      cases hfun : funB (nd l f) with
      | false => rfl
      | true =>
        obtain ⟨A, s, hA, hAf, hs, hsA, hp⟩ := fun_node h f (by omega) hfun
        rw [if_neg (by simp), if_pos rfl, if_pos (by omega), if_pos (by omega)]
        unfold outerOfL
        rw [Int.toNat_natCast, hA, spec_start h hsm A (by omega) k (by omega), hs]
        simp only [Option.bind_some]
        have := spec_outer_l0 h hsm f (by omega) A hAf hA hp (A + 1 - s) k s [] (by omega) (by omega) (by omega) (by simp; omega)
        rw [this, hs, Int.toNat_natCast, show ((A : Int) + 1 - (s : Int)).toNat = A + 1 - s by omega]
    · rw [if_neg hin, if_neg hin]
  · rw [if_neg h, if_neg h]
theorem outer_short (l : List Nd) (a : Int) : (outerB l a).length ≤ 1000 := by
  unfold outerB
  split
  · rename_i h
    have hlen := ok_len h
    split
    · rename_i hin
      have hr : 0 ≤ a ∧ a ≤ (l.length : Int) - 1 := by unfold inB at hin; simpa using hin
      split
      · rename_i hfun
        obtain ⟨A, s, hA, hAf, hs, hsA, hp⟩ := fun_node h a.toNat (by omega) hfun
        unfold outerOfL
        rw [hA, hs]
        have := outer_len l a (A : Int) (s : Int) (roleP (nd l a.toNat)) ((A : Int) + 1 - (s : Int)).toNat ((s : Int)).toNat []
        simp at this
        simp
        omega
      · simp
    · simp
  · simp
end Go.Proofs.YtfmlamheflbgdaaDoor.UNode
end
section
namespace Go.Proofs.YtfmlamheflbgdaaDoor.UMark
open Go.RowKit Go.Proofs.YtfmlamheflbgdaaDoor.PAll Go.Proofs.YtfmlamheflbgdaaDoorW.PrintWords Go.Proofs.YtfmlamheflbgdaaDoorW.PrintLast Go.Proofs.YtfmlamheflbgdaaDoor.UBase
theorem set_at59 (p : List S59) (a v : S59) (t : List S59) : (p ++ a :: t).set ((p.length : Nat) : Int).toNat v = p ++ v :: t := by
  rw [Int.toNat_natCast, List.set_append_right _ _ (Nat.le_refl _), Nat.sub_self, List.set_cons_zero]
theorem rd_at59 (p : List S59) (a : S59) (t : List S59) : rd_T59 (p ++ a :: t) ((p.length : Nat) : Int) = a := by
  unfold rd_T59
  rw [Int.toNat_natCast]
  simp [List.getD]
def mkBind (n : Int) : S59 := ⟨n, n + 1⟩
def mkBindL : Int → Nat → List S59
  | _, 0 => []
  | n, d + 1 => mkBind n :: mkBindL (n + 1 + 1) d
theorem markBindS_l0 (d : Nat) : ∀ (k : Nat) (n : Int) (p x : List S59), x.length = d → d < k → p.length + d ≤ 4000000 → 0 ≤ n → n + 2 * d ≤ 4000000000 → laws_markBindS.l0 k (p ++ x) n p.length = some (n + 2 * d, p ++ mkBindL n d) := by
  induction d with
  | zero =>
    intro k n p x hx hk hp h0 h1
    obtain ⟨k, rfl⟩ := succ_of hk
    have : x = [] := List.eq_nil_of_length_eq_zero hx
    subst this
    simp [laws_markBindS.l0, mkBindL]
  | succ d ih =>
    intro k n p x hx hk hp h0 h1
    obtain ⟨k, rfl⟩ := succ_of hk
    obtain ⟨a, t, rfl⟩ : ∃ a t, x = a :: t := by
      cases x with
      | nil => simp at hx
      | cons a t => exact ⟨a, t, rfl⟩
    have ht : t.length = d := by simpa using hx
    have e1 : wrap64 (n + 1) = n + 1 := w64 (by omega) (by omega)
    have e2 : wrap64 (n + 1 + 1) = n + 1 + 1 := w64 (by omega) (by omega)
    have ep : wrap64 ((p.length : Int) + 1) = ((p ++ [mkBind n]).length : Nat) := by rw [w64 (by omega) (by omega)]; simp
    simp only [laws_markBindS.l0, e1, e2, ep, set_at59, rd_at59, Option.bind_some]
    rw [if_pos (by simp; omega), if_pos (by omega)]
    have := ih k (n + 1 + 1) (p ++ [mkBind n]) t ht (by omega) (by simp; omega) (by omega) (by omega)
    rw [List.append_assoc, List.append_assoc] at this
    refine Eq.trans this ?_
    refine congrArg some (Prod.ext ?_ rfl)
    show n + 1 + 1 + 2 * (d : Int) = n + 2 * ((d + 1 : Nat) : Int)
    omega
theorem markBindS (x : List S59) (hx : x.length ≤ 1100000) (k : Nat) (hk : x.length < k) : laws_markBindS.f k x 1 = some (1 + 2 * (x.length : Int), mkBindL 1 x.length) := markBindS_l0 x.length k 1 [] x rfl hk (by simp; omega) (by omega) (by omega)
theorem heldBindS_l0 (d : Nat) : ∀ (k : Nat) (n : Int) (p : List S59), d < k → p.length + d ≤ 4000000 → 0 ≤ n → n + 2 * d ≤ 4000000000 → laws_heldBindS.l0 k (p ++ mkBindL n d) n p.length = some (n + 2 * d) := by
  induction d with
  | zero =>
    intro k n p hk hp h0 h1
    obtain ⟨k, rfl⟩ := succ_of hk
    simp [laws_heldBindS.l0, mkBindL]
  | succ d ih =>
    intro k n p hk hp h0 h1
    obtain ⟨k, rfl⟩ := succ_of hk
    have e1 : wrap64 (n + 1) = n + 1 := w64 (by omega) (by omega)
    have e2 : wrap64 (n + 1 + 1) = n + 1 + 1 := w64 (by omega) (by omega)
    have ep : wrap64 ((p.length : Int) + 1) = ((p ++ [mkBind n]).length : Nat) := by rw [w64 (by omega) (by omega)]; simp
    simp only [laws_heldBindS.l0, mkBindL, e1, e2, ep, rd_at59]
    rw [if_pos (by simp; omega), if_pos (by omega), if_pos (show (mkBind n).f0 = n from rfl), if_pos (show (mkBind n).f1 = n + 1 from rfl)]
    have := ih k (n + 1 + 1) (p ++ [mkBind n]) (by omega) (by simp; omega) (by omega) (by omega)
    rw [List.append_assoc] at this
    refine Eq.trans this (congrArg some ?_)
    omega
theorem heldBindS (d : Nat) (hd : d ≤ 1100000) (k : Nat) (hk : d < k) : laws_heldBindS.f k (mkBindL 1 d) 1 = some (1 + 2 * (d : Int)) := heldBindS_l0 d k 1 [] hk (by simp; omega) (by omega) (by omega)
theorem eqBind_refl (a : S59) : laws_eqBind.f a.f0 a.f1 a.f0 a.f1 = some true := by
  simp [laws_eqBind.f]
theorem eqBindS_l0 (x : List S59) (hn : x.length ≤ 4000000) (d : Nat) : ∀ (k i : Nat), i + d = x.length → d < k → laws_eqBindS.l0 k x x i = some true := by
  induction d with
  | zero =>
    intro k i hi hk
    obtain ⟨k, rfl⟩ := succ_of hk
    simp only [laws_eqBindS.l0]
    rw [if_neg (by omega)]
  | succ d ih =>
    intro k i hi hk
    obtain ⟨k, rfl⟩ := succ_of hk
    simp only [laws_eqBindS.l0]
    rw [if_pos (by omega), if_pos (by omega), if_pos (by omega), eqBind_refl]
    simp only [Option.bind_some, if_true]
    rw [w64 (by omega) (by omega)]
    exact ih k (i + 1) (by omega) (by omega)
theorem eqBindS (x : List S59) (hn : x.length ≤ 4000000) (k : Nat) (hk : x.length < k) : laws_eqBindS.f k x x = some true := by
  unfold laws_eqBindS.f
  rw [if_pos rfl]
  exact eqBindS_l0 x hn x.length k 0 (by omega) hk
end Go.Proofs.YtfmlamheflbgdaaDoor.UMark
end
section
namespace Go.Proofs.YtfmlamheflbgdaaDoor.UMark
open Go.RowKit Go.Proofs.YtfmlamheflbgdaaDoor.PAll Go.Proofs.YtfmlamheflbgdaaDoorW.PrintWords Go.Proofs.YtfmlamheflbgdaaDoorW.PrintLast Go.Proofs.YtfmlamheflbgdaaDoor.UBase
theorem one_size (x : Int) : (strOfNums [x]).size = 1 := by
  exact strOfNums_size [x]
theorem markText_l0 (d : Nat) : ∀ (n : Int) (s : ByteArray), n ≤ 9223372036854775807 → 0 ≤ n → n < 10 ^ d → s.size + d ≤ 4000000 → ∃ r, ∀ k, d < k → laws_markText.l0 k n s = some r := by
  induction d with
  | zero =>
    intro n s hb h0 h1 hs
    have : n = 0 := by simp at h1; omega
    subst this
    refine ⟨(⟨#[109]⟩ : ByteArray) ++ s, fun k hk => ?_⟩
    obtain ⟨k, rfl⟩ := succ_of hk
    simp only [laws_markText.l0]
    rw [if_neg (by omega), if_pos (by omega)]
  | succ d ih =>
    intro n s hb h0 h1 hs
    by_cases hz : n = 0
    · subst hz
      refine ⟨(⟨#[109]⟩ : ByteArray) ++ s, fun k hk => ?_⟩
      obtain ⟨k, rfl⟩ := succ_of (show 0 < k by omega)
      simp only [laws_markText.l0]
      rw [if_neg (by omega), if_pos (by omega)]
    · have hq : Int.tdiv n 10 = n / 10 := Int.tdiv_eq_ediv_of_nonneg h0
      have hd : (10 : Int) ^ (d + 1) = 10 ^ d * 10 := Int.pow_succ ..
      have hlt : n / 10 < 10 ^ d := by
        rw [hd] at h1
        exact Int.ediv_lt_of_lt_mul (by omega) h1
      obtain ⟨r, hr⟩ := ih (n / 10) (strOfNums [(wrap64 (48 + (Int.tmod n 10))) % 256] ++ s) (by omega) (by omega) hlt (by rw [ByteArray.size_append, one_size]; omega)
      refine ⟨r, fun k hk => ?_⟩
      obtain ⟨k, rfl⟩ := succ_of (show 0 < k by omega)
      simp only [laws_markText.l0, Option.bind_some]
      rw [if_pos (by omega), if_pos (by rw [one_size]; omega), hq, w64 (x := n / 10) (by omega) (by omega)]
      exact hr k (by omega)
def markT (n : Int) : ByteArray := (laws_markText.f 100 n).getD ByteArray.empty
theorem markText (n : Int) (h0 : 0 < n) (h1 : n < 10 ^ 18) (k : Nat) (hk : 30 < k) : laws_markText.f k n = some (markT n) := by
  obtain ⟨r, hr⟩ := markText_l0 18 n (⟨#[]⟩ : ByteArray) (by omega) (by omega) h1 (by show 0 + 18 ≤ 4000000; omega)
  have e : ∀ k, 30 < k → laws_markText.f k n = some r := by
    intro k hk
    unfold laws_markText.f
    rw [if_neg (by omega)]
    exact hr k (by omega)
  unfold markT
  rw [e k hk, e 100 (by omega)]
  rfl
theorem set_at55 (p : List S55) (a v : S55) (t : List S55) : (p ++ a :: t).set ((p.length : Nat) : Int).toNat v = p ++ v :: t := by
  rw [Int.toNat_natCast, List.set_append_right _ _ (Nat.le_refl _), Nat.sub_self, List.set_cons_zero]
theorem rd_at55 (p : List S55) (a : S55) (t : List S55) : rd_T55 (p ++ a :: t) ((p.length : Nat) : Int) = a := by
  unfold rd_T55
  rw [Int.toNat_natCast]
  simp [List.getD]
def mkNode (n : Int) : S55 := ⟨n, n + 1, n + 1 + 1, n + 1 + 1 + 1, n + 1 + 1 + 1 + 1, markT (n + 1 + 1 + 1 + 1 + 1), markT (n + 1 + 1 + 1 + 1 + 1 + 1)⟩
def mkNodeL : Int → Nat → List S55
  | _, 0 => []
  | n, d + 1 => mkNode n :: mkNodeL (n + 1 + 1 + 1 + 1 + 1 + 1 + 1) d
theorem markNodeS_l0 (d : Nat) : ∀ (k : Nat) (n : Int) (p x : List S55), x.length = d → d + 40 < k → p.length + d ≤ 4000000 → 0 ≤ n → n + 7 * d ≤ 4000000000 → laws_markNodeS.l0 k (p ++ x) n p.length = some (n + 7 * d, p ++ mkNodeL n d) := by
  induction d with
  | zero =>
    intro k n p x hx hk hp h0 h1
    obtain ⟨k, rfl⟩ := succ_of (show 0 < k by omega)
    have : x = [] := List.eq_nil_of_length_eq_zero hx
    subst this
    simp [laws_markNodeS.l0, mkNodeL]
  | succ d ih =>
    intro k n p x hx hk hp h0 h1
    obtain ⟨k, rfl⟩ := succ_of (show 0 < k by omega)
    obtain ⟨a, t, rfl⟩ : ∃ a t, x = a :: t := by
      cases x with
      | nil => simp at hx
      | cons a t => exact ⟨a, t, rfl⟩
    have ht : t.length = d := by simpa using hx
    have e1 : wrap64 (n + 1) = n + 1 := w64 (by omega) (by omega)
    have e2 : wrap64 (n + 1 + 1) = n + 1 + 1 := w64 (by omega) (by omega)
    have e3 : wrap64 (n + 1 + 1 + 1) = n + 1 + 1 + 1 := w64 (by omega) (by omega)
    have e4 : wrap64 (n + 1 + 1 + 1 + 1) = n + 1 + 1 + 1 + 1 := w64 (by omega) (by omega)
    have e5 : wrap64 (n + 1 + 1 + 1 + 1 + 1) = n + 1 + 1 + 1 + 1 + 1 := w64 (by omega) (by omega)
    have e6 : wrap64 (n + 1 + 1 + 1 + 1 + 1 + 1) = n + 1 + 1 + 1 + 1 + 1 + 1 := w64 (by omega) (by omega)
    have e7 : wrap64 (n + 1 + 1 + 1 + 1 + 1 + 1 + 1) = n + 1 + 1 + 1 + 1 + 1 + 1 + 1 := w64 (by omega) (by omega)
    have t5 := markText (n + 1 + 1 + 1 + 1 + 1) (by omega) (by omega) k (by omega)
    have t6 := markText (n + 1 + 1 + 1 + 1 + 1 + 1) (by omega) (by omega) k (by omega)
    have ep : wrap64 ((p.length : Int) + 1) = ((p ++ [mkNode n]).length : Nat) := by rw [w64 (by omega) (by omega)]; simp
    simp only [laws_markNodeS.l0, e1, e2, e3, e4, e5, e6, e7, t5, t6, ep, set_at55, rd_at55, Option.bind_some]
    rw [if_pos (by simp; omega), if_pos (by omega)]
    have := ih k (n + 1 + 1 + 1 + 1 + 1 + 1 + 1) (p ++ [mkNode n]) t ht (by omega) (by simp; omega) (by omega) (by omega)
    rw [List.append_assoc, List.append_assoc] at this
    refine Eq.trans this ?_
    refine congrArg some (Prod.ext ?_ rfl)
    show n + 1 + 1 + 1 + 1 + 1 + 1 + 1 + 7 * (d : Int) = n + 7 * ((d + 1 : Nat) : Int)
    omega
theorem markNodeS (x : List S55) (hx : x.length ≤ 1100000) (k : Nat) (hk : x.length + 40 < k) : laws_markNodeS.f k x 1 = some (1 + 7 * (x.length : Int), mkNodeL 1 x.length) := markNodeS_l0 x.length k 1 [] x rfl hk (by simp; omega) (by omega) (by omega)
end Go.Proofs.YtfmlamheflbgdaaDoor.UMark
end
section
namespace Go.Proofs.YtfmlamheflbgdaaDoor.Pure
open Go.RowKit Go.Proofs.YtfmlamheflbgdaaDoor.PAll Go.Proofs.YtfmlamheflbgdaaDoor.StmtFnExactOuterOf Go.Proofs.YtfmlamheflbgdaaDoorW.PrintWords Go.Proofs.YtfmlamheflbgdaaDoorW.PrintLast Go.Proofs.YtfmlamheflbgdaaDoor.UNode Go.Proofs.YtfmlamheflbgdaaDoor.UMark Go.Proofs.YtfmlamheflbgdaaDoor.UBase
theorem FnExactOuterOf : StmtFnExactOuterOf.Pure := by
  intro l a ⟨hl, hy⟩ _
  have hl' : l.length ≤ 9223372036854775807 := by simpa [maxLen] using hl
  have hm : ∀ j, j < l.length → (l.getD j z62).f5.size ≤ 9223372036854775807 ∧ (l.getD j z62).f6.size ≤ 9223372036854775807 := by
    intro j hj
    have e : l.getD j z62 = l[j] := by simp [List.getD, hj]
    have hk := hy _ (List.getElem_mem hj)
    rw [e]
    obtain ⟨_, _, _, _, _, h5, h6⟩ := hk
    exact ⟨by simpa [maxLen] using h5, by simpa [maxLen] using h6⟩
  refine ⟨1300000, ?_⟩
  generalize hK : 1300000 = K
  unfold laws_FnExactOuterOf.f
  obtain ⟨r, hr, _, _, hc⟩ := szNodeS l hl' hm 1048576 (by omega) (by omega) K (by omega)
  rw [hr]
  simp only [Option.bind_some]
  by_cases h : r < 0
  · rw [if_pos h]
  · obtain ⟨hn, hsm⟩ := hc.resolve_left h
    have hlm : (l.map toN).length = l.length := List.length_map _
    have hz := outer_short (l.map toN) a
    obtain ⟨K, rfl⟩ := succ_of (show 0 < K by omega)
    rw [if_neg h]
    simp only [laws_FnExactOuterOf.j0]
    rw [toNodeS l hn (K + 1) (by omega), toNodeS l hn K (by omega)]
    simp only [Option.bind_some]
    rw [spec_outer _ a (by omega) hsm (K + 1) (by omega), impl_outer _ a (by omega) hsm (K + 1) (by omega)]
    simp only [Option.bind_some]
    rw [impl_outer _ a (by omega) hsm K (by omega), eqBindS _ (by omega) (K + 1) (by omega)]
    simp only [Option.bind_some]
    rw [eqBindS _ (by omega) K (by omega), eqNodeS _ (by omega) (K + 1) (by omega), markNodeS _ (by omega) (K + 1) (by omega), markBindS _ (by omega) K (by omega)]
    simp only [Option.bind_some]
    rw [heldBindS _ (by omega) K (by omega)]
    simp only [Option.bind_some, if_true, Bool.not_true, Bool.false_eq_true, if_false]
    rw [if_neg (by omega), if_neg (by omega), if_neg (by omega)]
end Go.Proofs.YtfmlamheflbgdaaDoor.Pure
end
