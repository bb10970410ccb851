/- The law FnExactEdgesOf without memory: what its functions come to, and that it answers true for all values of its parameters. -/
import Derived.Test.YtfmlamheflbgdaaVae0
import Derived.Deep.Slices
import Derived.ChangeArms
import Derived.WideShapes
import Derived.Test.YtfmlamheflbgdaaQe2
import Derived.KernelRfl
import Derived.Test.YtfmlamheflbgdaaQe1
import Derived.Test.YtfmlamheflbgdaaQe0
section
namespace Go.Proofs.Ytfmlamheflbgdaa.Open
open Go.RowKit Go.Deep Go.WideShapes Go.Proofs.YtfmlamheflbgdaaW.PrintWords
universe u v
structure Opens {α : Type} (P : Program) (t : TypeId) (d : Kd α) (ok : α → Prop) : Prop where
  mk ::
  one : P.cellsOf t = d.sz
  two : ∀ {H : Type} {enc : TypeId × Value → H} {w : World} {base : Nat} {spare : Nat → Bool} {held : Bool} {fuel : Nat} {cs : List Value} {x : DataW H × List MemPlace},
    DataW.trod enc P w base spare held fuel t cs = some x → ∃ a, d.K w a cs ∧ ok a
theorem opens_int {P : Program} {t : TypeId} {k : IntKind} (hu : P.underlying t = some (.int k)) (hc : P.cellsOf t = 1) : Opens P t (Kd.int k) (fun a => (Lit.int k a).wf = true) :=
  ⟨hc, fun h => by
    obtain ⟨n, rfl, _, hw⟩ := DataW.trod_int hu h
    exact ⟨n, rfl, hw⟩⟩
theorem opens_bool {P : Program} {t : TypeId} (hu : P.underlying t = some .bool) (hc : P.cellsOf t = 1) : Opens P t Kd.bool (fun _ => True) :=
  ⟨hc, fun h => by
    obtain ⟨n, rfl, _⟩ := DataW.trod_bool hu h
    exact ⟨n, rfl, trivial⟩⟩
theorem opens_string {P : Program} {t : TypeId} (hu : P.underlying t = some .string) (hc : P.cellsOf t = 1) : Opens P t Kd.string (fun s => s.size ≤ maxLen) :=
  ⟨hc, fun h => by
    obtain ⟨n, rfl, _, hs⟩ := DataW.trod_string hu h
    exact ⟨n, rfl, hs⟩⟩
theorem opens_slice {α : Type} {P : Program} {t e : TypeId} {d : Kd α} {ok : α → Prop} (hu : P.underlying t = some (.slice e)) (hc : P.cellsOf t = 1) (he : Opens P e d ok) :
    Opens P t (Kd.slice e d) (fun l => l.length ≤ maxLen ∧ ∀ x ∈ l, ok x) :=
  ⟨hc, fun {H enc w base spare held fuel cs x} h => by
    rcases open_slice hu h with ⟨rfl, _⟩ | ⟨a, len, cap, m, n, D, Pl, rfl, hb, hl, hm, hmm, _, hi⟩
    · exact ⟨[], ⟨none, 0, rfl, Nat.le_refl _, Kd.C_nil d w⟩, Nat.zero_le _, fun y hy => by simp at hy⟩
    · have hle : len ≤ m := by
        rw [hmm]
        split
        · exact hl
        · exact Nat.le_refl _
      have key : ∀ j, j ≤ len → ∃ xs : List α, xs.length = j ∧ (∀ y ∈ xs, ok y) ∧ ∀ i p, xs[i]? = some p → ∃ c, c.length = d.sz ∧ d.K w p c ∧ ∀ q u, c[q]? = some u → w.cell? (a.add (i * d.sz + q)) = some u := by
        intro j
        induction j with
        | zero => exact fun _ => ⟨[], rfl, fun y hy => by simp at hy, fun i p hp => by simp at hp⟩
        | succ j ih =>
          intro hj
          obtain ⟨xs, hx, ho, hg⟩ := ih (by omega)
          obtain ⟨cs', hcs, ht⟩ := hi j (by omega)
          obtain ⟨y, hK, hy⟩ := he.two ht
          rw [he.one] at hcs
          obtain ⟨_, hcl, hat⟩ := World.cells?_some hcs
          refine ⟨xs ++ [y], by simp [hx], fun z hz => ?_, fun i p hp => ?_⟩
          · rcases List.mem_append.1 hz with hz | hz
            · exact ho z hz
            · rw [List.mem_singleton.1 hz]
              exact hy
          · rcases Nat.lt_or_ge i xs.length with hi' | hi'
            · rw [List.getElem?_append_left hi'] at hp
              exact hg i p hp
            · rw [List.getElem?_append_right hi'] at hp
              have hi0 : i - xs.length = 0 := by
                rcases Nat.eq_zero_or_pos (i - xs.length) with h0 | h0
                · exact h0
                · rw [List.getElem?_eq_none (by simp; omega)] at hp
                  cases hp
              rw [hi0] at hp
              have hp' : y = p := by simpa using hp
              subst hp'
              have hij : i = j := by omega
              subst hij
              refine ⟨cs', hcl, hK, fun q u hq => ?_⟩
              have hql : q < d.sz := by
                rcases Nat.lt_or_ge q cs'.length with h0 | h0
                · omega
                · rw [List.getElem?_eq_none h0] at hq
                  cases hq
              have := hat q hql
              rw [hq] at this
              rw [← Go.Deep.add_add]
              exact this
      obtain ⟨xs, hx, ho, hg⟩ := key len (Nat.le_refl _)
      have hlm : len ≤ 9223372036854775807 := by
        have : cap ≤ maxLen := hm
        simp only [maxLen] at this
        omega
      refine ⟨xs, ⟨some a, cap, by rw [hx], by omega, ⟨rfl, by omega, fun _ => ⟨a, rfl, hg⟩⟩⟩, by omega, ho⟩⟩
structure OpensAt {α : Type} (P : Program) (fs : List Field) (off : Nat) (d : Kd α) (ok : α → Prop) : Prop where
  mk ::
  at_ : ∀ {H : Type} {enc : TypeId × Value → H} {w : World} {base : Nat} {spare : Nat → Bool} {held : Bool} {n : Nat} {cs : List Value}, cs.length = off + d.sz →
    (∀ f ∈ fs, ∃ x, DataW.trod enc P w base spare held n f.type ((cs.drop f.offset).take (P.cellsOf f.type)) = some x) → ∃ a, d.K w a (cs.drop off) ∧ ok a
theorem opensAt_one {α : Type} {P : Program} {f : Field} {off : Nat} {d : Kd α} {ok : α → Prop} (ho : f.offset = off) (he : Opens P f.type d ok) : OpensAt P [f] off d ok := by
  refine ⟨fun {H enc w base spare held n cs} hl hf => ?_⟩
  obtain ⟨x, hx⟩ := hf f (List.mem_singleton.2 rfl)
  rw [ho, he.one, List.take_of_length_le (by rw [List.length_drop]; omega)] at hx
  exact he.two hx
theorem opensAt_cons {α β : Type} {P : Program} {f : Field} {fs : List Field} {off : Nat} {d : Kd α} {d' : Kd β} {ok : α → Prop} {ok' : β → Prop} (ho : f.offset = off) (he : Opens P f.type d ok) (hr : OpensAt P fs (off + d.sz) d' ok') :
    OpensAt P (f :: fs) off (Kd.pair d d') (fun p => ok p.1 ∧ ok' p.2) := by
  refine ⟨fun {H enc w base spare held n cs} hl hf => ?_⟩
  have hl' : cs.length = off + (d.sz + d'.sz) := hl
  obtain ⟨x, hx⟩ := hf f List.mem_cons_self
  rw [ho, he.one] at hx
  obtain ⟨a, ha, hoa⟩ := he.two hx
  obtain ⟨b, hb, hob⟩ := hr.at_ (cs := cs) (by omega) (fun g hg => hf g (List.mem_cons_of_mem _ hg))
  refine ⟨(a, b), ⟨_, _, ?_, ha, hb⟩, hoa, hob⟩
  have e : cs.drop (off + d.sz) = (cs.drop off).drop d.sz := by rw [List.drop_drop]
  rw [e, List.take_append_drop]
theorem opens_struct {α β : Type} {P : Program} {t : TypeId} {fs : Array Field} {d : Kd α} {ok : α → Prop} {f : β → α} (g : α → β) (hu : P.underlying t = some (.struct fs)) (hc : P.cellsOf t = d.sz) (hg : ∀ a, f (g a) = a) (h : OpensAt P fs.toList 0 d ok) :
    Opens P t (Kd.iso d f) (fun b => ok (f b)) :=
  ⟨hc, fun {H enc w base spare held fuel cs x} ht => by
    obtain ⟨xs, n, _, _, hl, hxl, hf⟩ := DataW.trod_struct hu ht
    obtain ⟨a, ha, hoa⟩ := h.at_ (enc := enc) (w := w) (base := base) (spare := spare) (held := held) (n := n) (cs := cs) (by rw [hl, hc]; omega) (fun q hq => by
      obtain ⟨i, hi, he⟩ := List.mem_iff_getElem.1 hq
      have hi' : fs[i]? = some q := by
        rw [← he]
        simp
      have hh := hf i q hi'
      have : i < xs.length := by
        rw [hxl]
        simpa using hi
      exact ⟨_, hh.trans (List.getElem?_eq_getElem this)⟩)
    refine ⟨g a, ?_, ?_⟩
    · show d.K w (f (g a)) cs
      rw [hg]
      simpa using ha
    · show ok (f (g a))
      rw [hg]
      exact hoa⟩
section args
variable {α : Type} {P : Program} {t : TypeId} {d : Kd α} {ok : α → Prop} {okl : List α → Prop} {H : Type} {enc : TypeId × Value → H} {w : World} {base : Nat} {spare : Nat → Bool} {held : Bool} {v : Value} {dt : DataW H} {p : List MemPlace} {r : Reach} {b0 : Nat}
theorem arg_slice {e : TypeId} (hu : P.underlying t = some (.slice e)) (ho : Opens P t (Kd.slice e d) okl) (hv : Value.okWide P w r b0 t v) (h : DataW.Trod enc P w base spare held t v dt p) :
    ∃ (A : Option Addr) (c : Nat) (l : List α), v = .slice A l.length c ∧ l.length ≤ c ∧ d.C w A l.length l ∧ okl l := by
  obtain ⟨a, len, cap, rfl⟩ := okWide_slice hu hv
  obtain ⟨fuel, hf⟩ := h
  obtain ⟨l, ⟨A, c, he, hl, hC⟩, hok⟩ := ho.two hf
  have he' : [Value.slice a len cap] = [.slice A l.length c] := he
  exact ⟨A, c, l, (List.cons.inj he').1, hl, hC, hok⟩
theorem arg_struct {fs : Array Field} (hu : P.underlying t = some (.struct fs)) (ho : Opens P t d ok) (hv : Value.okWide P w r b0 t v) (h : DataW.Trod enc P w base spare held t v dt p) :
    ∃ (cs : List Value) (a : α), v = .agg cs.toArray ∧ d.K w a cs ∧ ok a := by
  obtain ⟨cs, rfl, _⟩ := okWide_struct hu hv
  obtain ⟨fuel, hf⟩ := h
  obtain ⟨a, hK, hok⟩ := ho.two hf
  exact ⟨cs.toList, a, rfl, hK, hok⟩
end args
end Go.Proofs.Ytfmlamheflbgdaa.Open
end
section
namespace Go.Proofs.Ytfmlamheflbgdaa.StmtFnExactEdgesOf
open Go.RowKit Go.Proofs.Ytfmlamheflbgdaa.PAll Go.Proofs.YtfmlamheflbgdaaW.PrintWords Go.Proofs.YtfmlamheflbgdaaW.PrintLast Go.Proofs.Ytfmlamheflbgdaa.Open
def ok49 (x : S49) : Prop := (Lit.int .i64 x.f0).wf = true ∧ (Lit.int .i64 x.f1).wf = true ∧ (Lit.int .i64 x.f2).wf = true
theorem opens49 : Opens Try.prog 49 k49 ok49 := opens_struct (d := (Kd.pair (Kd.int .i64) (Kd.pair (Kd.int .i64) (Kd.int .i64)))) (f := (fun x : S49 => (x.f0, x.f1, x.f2))) (fun a => ⟨a.1, a.2.1, a.2.2⟩) Try.underlying49 (by kernel_rfl) (fun _ => rfl) (opensAt_cons rfl (opens_int Try.underlying3 (by kernel_rfl)) (opensAt_cons rfl (opens_int Try.underlying3 (by kernel_rfl)) (opensAt_one rfl (opens_int Try.underlying3 (by kernel_rfl)))))
structure S24 where
  f0 : Int
  f1 : ByteArray
  f2 : Int
  f3 : Int
  f4 : List (S49)
def k24 : Kd S24 := Kd.iso (Kd.pair (Kd.int .i64) (Kd.pair Kd.string (Kd.pair (Kd.int .i64) (Kd.pair (Kd.int .i64) (Kd.slice 49 k49))))) (fun x : S24 => (x.f0, x.f1, x.f2, x.f3, x.f4))
theorem k24_open {w : World} {x : S24} {cs : List Value} (h : k24.K w x cs) : ∃ A4 c4, cs = [.int .i64 x.f0, .string x.f1, .int .i64 x.f2, .int .i64 x.f3, Value.slice A4 x.f4.length c4] ∧ x.f4.length ≤ c4 ∧ Kd.C k49 w A4 x.f4.length x.f4 := by
  obtain ⟨_, _, rfl, rfl, ⟨_, _, rfl, rfl, ⟨_, _, rfl, rfl, ⟨_, _, rfl, rfl, ⟨A4, c4, rfl, l4, g4⟩⟩⟩⟩⟩ := h
  exact ⟨A4, c4, rfl, l4, g4⟩
def ok24 (x : S24) : Prop := (Lit.int .i64 x.f0).wf = true ∧ x.f1.size ≤ maxLen ∧ (Lit.int .i64 x.f2).wf = true ∧ (Lit.int .i64 x.f3).wf = true ∧ (x.f4.length ≤ maxLen ∧ ∀ y ∈ x.f4, ok49 y)
theorem opens24 : Opens Try.prog 24 k24 ok24 := opens_struct (d := (Kd.pair (Kd.int .i64) (Kd.pair Kd.string (Kd.pair (Kd.int .i64) (Kd.pair (Kd.int .i64) (Kd.slice 49 k49)))))) (f := (fun x : S24 => (x.f0, x.f1, x.f2, x.f3, x.f4))) (fun a => ⟨a.1, a.2.1, a.2.2.1, a.2.2.2.1, a.2.2.2.2⟩) Try.underlying24 (by kernel_rfl) (fun _ => rfl) (opensAt_cons rfl (opens_int Try.underlying3 (by kernel_rfl)) (opensAt_cons rfl (opens_string Try.underlying9 (by kernel_rfl)) (opensAt_cons rfl (opens_int Try.underlying3 (by kernel_rfl)) (opensAt_cons rfl (opens_int Try.underlying3 (by kernel_rfl)) (opensAt_one rfl (opens_slice Try.underlying22 (by kernel_rfl) opens49))))))
def Pure : Prop := ∀ (x0 : S24), ok24 x0 → ∃ k, laws_FnExactEdgesOf.f k (x0.f0) (x0.f1) (x0.f2) (x0.f3) (x0.f4) = some true
end Go.Proofs.Ytfmlamheflbgdaa.StmtFnExactEdgesOf
end
section
namespace Go.Proofs.Ytfmlamheflbgdaa.UBase
open Go.RowKit Go.Proofs.YtfmlamheflbgdaaW.PrintWords
theorem w64 {x : Int} (h0 : -9223372036854775808 ≤ x) (h1 : x ≤ 9223372036854775807) : wrap64 x = x := by
  unfold wrap64
  omega
theorem w64_id (x : Int) : wrap64 x = x ∨ x < -9223372036854775808 ∨ 9223372036854775807 < x := by
  by_cases h0 : -9223372036854775808 ≤ x
  · by_cases h1 : x ≤ 9223372036854775807
    · exact .inl (w64 h0 h1)
    · exact .inr (.inr (by omega))
  · exact .inr (.inl (by omega))
theorem wf_bounds {x : Int} (h : (Lit.int .i64 x).wf = true) : -9223372036854775808 ≤ x ∧ x ≤ 9223372036854775807 := by
  simp [Lit.wf] at h
  exact ⟨h.1, h.2⟩
theorem succ_of {k n : Nat} (h : n < k) : ∃ m, k = m + 1 := ⟨k - 1, by omega⟩
def At {α : Type} (g : Nat → Option α) (K : Nat) (r : α) : Prop := ∀ k, K ≤ k → g k = some r
theorem set_getD_eq {α : Type} (l : List α) (i : Nat) (a d : α) (h : i < l.length) : (l.set i a).getD i d = a := by
  simp [List.getD, h]
theorem set_getD_ne {α : Type} (l : List α) (i j : Nat) (a d : α) (h : i ≠ j) : (l.set i a).getD j d = l.getD j d := by
  simp [List.getD, h]
theorem ext_getD {α : Type} {l m : List α} (d : α) (hl : l.length = m.length) (h : ∀ i, i < l.length → l.getD i d = m.getD i d) : l = m := by
  apply List.ext_getElem hl
  intro i h1 h2
  have := h i h1
  simpa [List.getD, List.getElem?_eq_getElem h1, List.getElem?_eq_getElem h2] using this
end Go.Proofs.Ytfmlamheflbgdaa.UBase
end
section
namespace Go.Proofs.Ytfmlamheflbgdaa.UMark
open Go.RowKit Go.Proofs.Ytfmlamheflbgdaa.PAll Go.Proofs.YtfmlamheflbgdaaW.PrintWords Go.Proofs.YtfmlamheflbgdaaW.PrintLast Go.Proofs.Ytfmlamheflbgdaa.UBase
theorem set_at42 (p : List S42) (a v : S42) (t : List S42) : (p ++ a :: t).set ((p.length : Nat) : Int).toNat v = p ++ v :: t := by
  rw [Int.toNat_natCast, List.set_append_right _ _ (Nat.le_refl _), Nat.sub_self, List.set_cons_zero]
theorem rd_at42 (p : List S42) (a : S42) (t : List S42) : rd_T42 (p ++ a :: t) ((p.length : Nat) : Int) = a := by
  unfold rd_T42
  rw [Int.toNat_natCast]
  simp [List.getD]
def mkEdge (n : Int) : S42 := ⟨n, n + 1⟩
def mkEdgeL : Int → Nat → List S42
  | _, 0 => []
  | n, d + 1 => mkEdge n :: mkEdgeL (n + 1 + 1) d
theorem markEdgeS_l0 (d : Nat) : ∀ (k : Nat) (n : Int) (p x : List S42), x.length = d → d < k → p.length + d ≤ 4000000 → 0 ≤ n → n + 2 * d ≤ 4000000000 → laws_markEdgeS.l0 k (p ++ x) n p.length = some (n + 2 * d, p ++ mkEdgeL n d) := by
  induction d with
  | zero =>
    intro k n p x hx hk hp h0 h1
    obtain ⟨k, rfl⟩ := succ_of hk
    have : x = [] := List.eq_nil_of_length_eq_zero hx
    subst this
    simp [laws_markEdgeS.l0, mkEdgeL]
  | succ d ih =>
    intro k n p x hx hk hp h0 h1
    obtain ⟨k, rfl⟩ := succ_of hk
    obtain ⟨a, t, rfl⟩ : ∃ a t, x = a :: t := by
      cases x with
      | nil => simp at hx
      | cons a t => exact ⟨a, t, rfl⟩
    have ht : t.length = d := by simpa using hx
    have e1 : wrap64 (n + 1) = n + 1 := w64 (by omega) (by omega)
    have e2 : wrap64 (n + 1 + 1) = n + 1 + 1 := w64 (by omega) (by omega)
    have ep : wrap64 ((p.length : Int) + 1) = ((p ++ [mkEdge n]).length : Nat) := by rw [w64 (by omega) (by omega)]; simp
    simp only [laws_markEdgeS.l0, e1, e2, ep, set_at42, rd_at42, Option.bind_some]
    rw [if_pos (by simp; omega), if_pos (by omega)]
    have := ih k (n + 1 + 1) (p ++ [mkEdge n]) t ht (by omega) (by simp; omega) (by omega) (by omega)
    rw [List.append_assoc, List.append_assoc] at this
    refine Eq.trans this ?_
    refine congrArg some (Prod.ext ?_ rfl)
    show n + 1 + 1 + 2 * (d : Int) = n + 2 * ((d + 1 : Nat) : Int)
    omega
theorem markEdgeS (x : List S42) (hx : x.length ≤ 1100000) (k : Nat) (hk : x.length < k) : laws_markEdgeS.f k x 1 = some (1 + 2 * (x.length : Int), mkEdgeL 1 x.length) := markEdgeS_l0 x.length k 1 [] x rfl hk (by simp; omega) (by omega) (by omega)
theorem heldEdgeS_l0 (d : Nat) : ∀ (k : Nat) (n : Int) (p : List S42), d < k → p.length + d ≤ 4000000 → 0 ≤ n → n + 2 * d ≤ 4000000000 → laws_heldEdgeS.l0 k (p ++ mkEdgeL n d) n p.length = some (n + 2 * d) := by
  induction d with
  | zero =>
    intro k n p hk hp h0 h1
    obtain ⟨k, rfl⟩ := succ_of hk
    simp [laws_heldEdgeS.l0, mkEdgeL]
  | succ d ih =>
    intro k n p hk hp h0 h1
    obtain ⟨k, rfl⟩ := succ_of hk
    have e1 : wrap64 (n + 1) = n + 1 := w64 (by omega) (by omega)
    have e2 : wrap64 (n + 1 + 1) = n + 1 + 1 := w64 (by omega) (by omega)
    have ep : wrap64 ((p.length : Int) + 1) = ((p ++ [mkEdge n]).length : Nat) := by rw [w64 (by omega) (by omega)]; simp
    simp only [laws_heldEdgeS.l0, mkEdgeL, e1, e2, ep, rd_at42]
    rw [if_pos (by simp; omega), if_pos (by omega), if_pos (show (mkEdge n).f0 = n from rfl), if_pos (show (mkEdge n).f1 = n + 1 from rfl)]
    have := ih k (n + 1 + 1) (p ++ [mkEdge n]) (by omega) (by simp; omega) (by omega) (by omega)
    rw [List.append_assoc] at this
    refine Eq.trans this (congrArg some ?_)
    omega
theorem heldEdgeS (d : Nat) (hd : d ≤ 1100000) (k : Nat) (hk : d < k) : laws_heldEdgeS.f k (mkEdgeL 1 d) 1 = some (1 + 2 * (d : Int)) := heldEdgeS_l0 d k 1 [] hk (by simp; omega) (by omega) (by omega)
theorem eqEdge_refl (a : S42) : laws_eqEdge.f a.f0 a.f1 a.f0 a.f1 = some true := by
  simp [laws_eqEdge.f]
theorem eqEdgeS_l0 (x : List S42) (hn : x.length ≤ 4000000) (d : Nat) : ∀ (k i : Nat), i + d = x.length → d < k → laws_eqEdgeS.l0 k x x i = some true := by
  induction d with
  | zero =>
    intro k i hi hk
    obtain ⟨k, rfl⟩ := succ_of hk
    simp only [laws_eqEdgeS.l0]
    rw [if_neg (by omega)]
  | succ d ih =>
    intro k i hi hk
    obtain ⟨k, rfl⟩ := succ_of hk
    simp only [laws_eqEdgeS.l0]
    rw [if_pos (by omega), if_pos (by omega), if_pos (by omega), eqEdge_refl]
    simp only [Option.bind_some, if_true]
    rw [w64 (by omega) (by omega)]
    exact ih k (i + 1) (by omega) (by omega)
theorem eqEdgeS (x : List S42) (hn : x.length ≤ 4000000) (k : Nat) (hk : x.length < k) : laws_eqEdgeS.f k x x = some true := by
  unfold laws_eqEdgeS.f
  rw [if_pos rfl]
  exact eqEdgeS_l0 x hn x.length k 0 (by omega) hk
end Go.Proofs.Ytfmlamheflbgdaa.UMark
end
section
namespace Go.Proofs.Ytfmlamheflbgdaa.UEdges
open Go.RowKit Go.Proofs.Ytfmlamheflbgdaa.PAll Go.Proofs.YtfmlamheflbgdaaW.PrintWords Go.Proofs.YtfmlamheflbgdaaW.PrintLast Go.Proofs.Ytfmlamheflbgdaa.UBase Go.Proofs.Ytfmlamheflbgdaa.UMark
theorem rd_mid {α : Type} (p : List α) (a d : α) (t : List α) : (p ++ a :: t).getD ((p.length : Nat) : Int).toNat d = a := by
  rw [Int.toNat_natCast]
  simp [List.getD]
theorem set_mid {α : Type} (n : Nat) (q : List α) (a v : α) (t : List α) (h : q.length = n) : (q ++ a :: t).set ((n : Nat) : Int).toNat v = q ++ v :: t := by
  rw [Int.toNat_natCast, ← h, List.set_append_right _ _ (Nat.le_refl _), Nat.sub_self, List.set_cons_zero]
def toE (x : S49) : S39 := ⟨x.f0, x.f1, x.f2⟩
theorem toEventS_l0 (d : Nat) : ∀ (k : Nat) (p r : List S49), r.length = d → d < k → p.length + d ≤ 4000000 → laws_toEventS.l0 k (p ++ r) (p.map toE ++ List.replicate r.length z39) p.length = some ((p ++ r).map toE) := by
  induction d with
  | zero =>
    intro k p r hr hk hp
    obtain ⟨k, rfl⟩ := succ_of hk
    have : r = [] := List.eq_nil_of_length_eq_zero hr
    subst this
    simp [laws_toEventS.l0]
  | succ d ih =>
    intro k p r hr hk hp
    obtain ⟨k, rfl⟩ := succ_of hk
    obtain ⟨a, t, rfl⟩ : ∃ a t, r = a :: t := by
      cases r with
      | nil => simp at hr
      | cons a t => exact ⟨a, t, rfl⟩
    have ht : t.length = d := by simpa using hr
    have ep : wrap64 ((p.length : Int) + 1) = ((p ++ [a]).length : Nat) := by rw [w64 (by omega) (by omega)]; simp
    have e1 : rd_T49 (p ++ a :: t) ((p.length : Nat) : Int) = a := rd_mid p a _ t
    simp only [laws_toEventS.l0, laws_toEvent.f, e1, ep, Option.bind_some]
    rw [if_pos (by simp; omega), if_pos (by omega), if_pos (by simp; omega), List.length_cons, List.replicate_succ, set_mid p.length (p.map toE) _ _ _ (by simp)]
    have := ih k (p ++ [a]) t ht (by omega) (by simp; omega)
    rw [List.map_append, List.append_assoc, List.append_assoc] at this
    exact this
theorem toEventS (l : List S49) (hl : l.length ≤ 1048576) (k : Nat) (hk : l.length < k) : laws_toEventS.f k l = some (l.map toE) := by
  unfold laws_toEventS.f
  rw [if_pos (by omega), if_pos (by omega), Int.toNat_natCast]
  exact toEventS_l0 l.length k [] l rfl hk (by simp; omega)
theorem eqEvent_refl (a : S39) : laws_eqEvent.f a.f0 a.f1 a.f2 a.f0 a.f1 a.f2 = some true := by
  simp [laws_eqEvent.f]
theorem eqEventS_l0 (x : List S39) (hn : x.length ≤ 4000000) (d : Nat) : ∀ (k i : Nat), i + d = x.length → d < k → laws_eqEventS.l0 k x x i = some true := by
  induction d with
  | zero =>
    intro k i hi hk
    obtain ⟨k, rfl⟩ := succ_of hk
    simp only [laws_eqEventS.l0]
    rw [if_neg (by omega)]
  | succ d ih =>
    intro k i hi hk
    obtain ⟨k, rfl⟩ := succ_of hk
    simp only [laws_eqEventS.l0]
    rw [if_pos (by omega), if_pos (by omega), if_pos (by omega), eqEvent_refl]
    simp only [Option.bind_some, if_true]
    rw [w64 (by omega) (by omega)]
    exact ih k (i + 1) (by omega) (by omega)
theorem eqEventS (x : List S39) (hn : x.length ≤ 4000000) (k : Nat) (hk : x.length < k) : laws_eqEventS.f k x x = some true := by
  unfold laws_eqEventS.f
  rw [if_pos rfl]
  exact eqEventS_l0 x hn x.length k 0 (by omega) hk
theorem markEventS_l0 (d : Nat) : ∀ (k : Nat) (n : Int) (i : Nat) (x : List S39), i + d = x.length → d < k → x.length ≤ 4000000 → 0 ≤ n → n + 3 * d ≤ 4000000000 → ∃ y, laws_markEventS.l0 k x n i = some (n + 3 * d, y) := by
  induction d with
  | zero =>
    intro k n i x hi hk hx h0 h1
    obtain ⟨k, rfl⟩ := succ_of hk
    refine ⟨x, ?_⟩
    simp only [laws_markEventS.l0]
    rw [if_neg (by omega)]
    simp
  | succ d ih =>
    intro k n i x hi hk hx h0 h1
    obtain ⟨k, rfl⟩ := succ_of hk
    have e1 : wrap64 (n + 1) = n + 1 := w64 (by omega) (by omega)
    have e2 : wrap64 (n + 1 + 1) = n + 1 + 1 := w64 (by omega) (by omega)
    have e3 : wrap64 (n + 1 + 1 + 1) = n + 1 + 1 + 1 := w64 (by omega) (by omega)
    have ei : wrap64 ((i : Int) + 1) = ((i + 1 : Nat) : Int) := by rw [w64 (by omega) (by omega)]; rfl
    simp only [laws_markEventS.l0, e1, e2, e3, ei, Option.bind_some]
    rw [if_pos (by omega), if_pos (by omega)]
    have key : ∀ x' : List S39, x'.length = x.length → ∃ y, laws_markEventS.l0 k x' (n + 1 + 1 + 1) ((i + 1 : Nat) : Int) = some (n + 3 * ((d + 1 : Nat) : Int), y) := fun x' hx' => by
      obtain ⟨y, hy⟩ := ih k (n + 1 + 1 + 1) (i + 1) x' (by omega) (by omega) (by omega) (by omega) (by omega)
      refine ⟨y, hy.trans (congrArg some (Prod.ext ?_ rfl))⟩
      show n + 1 + 1 + 1 + 3 * (d : Int) = n + 3 * ((d + 1 : Nat) : Int)
      omega
    exact key _ (by simp only [List.length_set])
theorem markEventS (x : List S39) (hx : x.length ≤ 1100000) (k : Nat) (hk : x.length < k) : ∃ y, laws_markEventS.f k x 1 = some (1 + 3 * (x.length : Int), y) := markEventS_l0 x.length k 1 0 x (by omega) hk (by omega) (by omega) (by omega)
theorem eqE_def (x : S42) (a b : Int) : ((x.f0 == a) && (x.f1 == b)) = eqE x ⟨a, b⟩ := by
  simp [eqE]
  rfl
theorem l12_done (a b : Int) (d : Nat) : ∀ (k : Nat) (p q r : List S42), r.length = d → d < k → p.length + d ≤ 4000000 → q.length + d ≤ 4000000 →
    ((⟨a, b⟩ : S42) ∈ r → spec_l12Edge.l0 k (p ++ r) q true p.length a b = some (p ++ r)) ∧ ((⟨a, b⟩ : S42) ∉ r → spec_l12Edge.l0 k (p ++ r) q true p.length a b = some (q ++ r)) := by
  induction d with
  | zero =>
    intro k p q r hr hk hp hq
    obtain ⟨k, rfl⟩ := succ_of hk
    have : r = [] := List.eq_nil_of_length_eq_zero hr
    subst this
    simp [spec_l12Edge.l0]
  | succ d ih =>
    intro k p q r hr hk hp hq
    obtain ⟨k, rfl⟩ := succ_of hk
    obtain ⟨x, t, rfl⟩ : ∃ a t, r = a :: t := by
      cases r with
      | nil => simp at hr
      | cons a t => exact ⟨a, t, rfl⟩
    have ht : t.length = d := by simpa using hr
    have ep : wrap64 ((p.length : Int) + 1) = ((p ++ [x]).length : Nat) := by rw [w64 (by omega) (by omega)]; simp
    have e1 : rd_T42 (p ++ x :: t) ((p.length : Nat) : Int) = x := rd_mid p x _ t
    simp only [spec_l12Edge.l0, e1, ep, eqE_def, if_true]
    rw [if_pos (by simp; omega), if_pos (by omega)]
    rcases hb : eqE x ⟨a, b⟩ with _ | _
    · have hne := (eqE_no _ _).1 hb
      rw [if_neg (by simp), if_pos (by omega)]
      obtain ⟨h1, h2⟩ := ih k (p ++ [x]) (q ++ [x]) t ht (by omega) (by simp; omega) (by simp; omega)
      rw [show p ++ [x] ++ t = p ++ x :: t by simp] at h1 h2
      rw [show q ++ [x] ++ t = q ++ x :: t by simp] at h2
      exact ⟨fun h => h1 ((List.mem_cons.1 h).resolve_left (Ne.symm hne)), fun h => h2 fun h' => h (List.mem_cons_of_mem _ h')⟩
    · have he := (eqE_iff _ _).1 hb
      rw [if_pos rfl]
      exact ⟨fun _ => rfl, fun h => absurd (by rw [← he]; exact List.mem_cons_self) h⟩
theorem l12_ahead (a b : Int) (d : Nat) : ∀ (k : Nat) (p r : List S42), r.length = d → d < k → p.length + d ≤ 3000000 →
    ((⟨a, b⟩ : S42) ∈ r → spec_l12Edge.l0 k (p ++ r) p false p.length a b = some (p ++ r)) ∧ ((⟨a, b⟩ : S42) ∉ r → spec_l12Edge.l0 k (p ++ r) p false p.length a b = some (p ++ insE ⟨a, b⟩ r)) := by
  induction d with
  | zero =>
    intro k p r hr hk hp
    obtain ⟨k, rfl⟩ := succ_of hk
    have : r = [] := List.eq_nil_of_length_eq_zero hr
    subst this
    simp only [spec_l12Edge.l0, List.append_nil, insE]
    rw [if_neg (by omega), if_neg (by simp), if_pos (by omega)]
    exact ⟨fun h => by simp at h, fun _ => rfl⟩
  | succ d ih =>
    intro k p r hr hk hp
    obtain ⟨k, rfl⟩ := succ_of hk
    obtain ⟨x, t, rfl⟩ : ∃ a t, r = a :: t := by
      cases r with
      | nil => simp at hr
      | cons a t => exact ⟨a, t, rfl⟩
    have ht : t.length = d := by simpa using hr
    have ep : wrap64 ((p.length : Int) + 1) = ((p ++ [x]).length : Nat) := by rw [w64 (by omega) (by omega)]; simp
    have e1 : rd_T42 (p ++ x :: t) ((p.length : Nat) : Int) = x := rd_mid p x _ t
    have hin : ltE (⟨a, b⟩ : S42) x = true → (p ++ [⟨a, b⟩] ++ [x] ++ t) = p ++ insE ⟨a, b⟩ (x :: t) := fun h => by simp [insE, h]
    have hout : ltE (⟨a, b⟩ : S42) x = false → (p ++ [x] ++ insE ⟨a, b⟩ t) = p ++ insE ⟨a, b⟩ (x :: t) := fun h => by simp [insE, h]
    simp only [spec_l12Edge.l0, e1, ep, eqE_def, Bool.false_eq_true, if_false, Option.bind_some]
    rw [if_pos (by simp; omega), if_pos (by omega)]
    rcases hb : eqE x ⟨a, b⟩ with _ | _
    · have hne := (eqE_no _ _).1 hb
      rw [if_neg (by simp)]
      have hD := l12_done a b d k (p ++ [x]) (p ++ [⟨a, b⟩] ++ [x]) t ht (by omega) (by simp; omega) (by simp; omega)
      have hA := ih k (p ++ [x]) t ht (by omega) (by simp; omega)
      have eP : p ++ [x] ++ t = p ++ x :: t := by simp
      rw [eP] at hD hA
      have hlt : ltE (⟨a, b⟩ : S42) x = true ↔ (x.f0 > a ∨ (x.f0 = a ∧ x.f1 > b)) := by
        rw [ltE_iff]
        show a < x.f0 ∨ (a = x.f0 ∧ b < x.f1) ↔ _
        omega
      have yes : ltE (⟨a, b⟩ : S42) x = true → ((⟨a, b⟩ : S42) ∈ x :: t → spec_l12Edge.l0 k (p ++ x :: t) (p ++ [⟨a, b⟩] ++ [x]) true ((p ++ [x]).length : Nat) a b = some (p ++ x :: t)) ∧ ((⟨a, b⟩ : S42) ∉ x :: t → spec_l12Edge.l0 k (p ++ x :: t) (p ++ [⟨a, b⟩] ++ [x]) true ((p ++ [x]).length : Nat) a b = some (p ++ insE ⟨a, b⟩ (x :: t))) := fun h => by
        rw [← hin h]
        exact ⟨fun m => hD.1 ((List.mem_cons.1 m).resolve_left (Ne.symm hne)), fun m => hD.2 fun h' => m (List.mem_cons_of_mem _ h')⟩
      have no : ltE (⟨a, b⟩ : S42) x = false → ((⟨a, b⟩ : S42) ∈ x :: t → spec_l12Edge.l0 k (p ++ x :: t) (p ++ [x]) false ((p ++ [x]).length : Nat) a b = some (p ++ x :: t)) ∧ ((⟨a, b⟩ : S42) ∉ x :: t → spec_l12Edge.l0 k (p ++ x :: t) (p ++ [x]) false ((p ++ [x]).length : Nat) a b = some (p ++ insE ⟨a, b⟩ (x :: t))) := fun h => by
        rw [← hout h]
        exact ⟨fun m => hA.1 ((List.mem_cons.1 m).resolve_left (Ne.symm hne)), fun m => hA.2 fun h' => m (List.mem_cons_of_mem _ h')⟩
      by_cases c1 : x.f0 > a
      · rw [if_pos c1, if_pos (by omega), if_pos (by simp; omega)]
        exact yes (hlt.2 (.inl c1))
      · rw [if_neg c1]
        by_cases c2 : x.f0 = a
        · rw [if_pos c2]
          by_cases c3 : x.f1 > b
          · rw [if_pos c3, if_pos (by omega), if_pos (by simp; omega)]
            exact yes (hlt.2 (.inr ⟨c2, c3⟩))
          · rw [if_neg c3, if_pos (by omega)]
            exact no (by rcases h : ltE (⟨a, b⟩ : S42) x with _ | _; · rfl
                         · have := hlt.1 h; omega)
        · rw [if_neg c2, if_pos (by omega)]
          exact no (by rcases h : ltE (⟨a, b⟩ : S42) x with _ | _; · rfl
                       · have := hlt.1 h; omega)
    · have he := (eqE_iff _ _).1 hb
      rw [if_pos rfl]
      exact ⟨fun _ => rfl, fun h => absurd (by rw [← he]; exact List.mem_cons_self) h⟩
def putE (l : List S42) (e : S42) : List S42 := if l.any (fun x => eqE x e) = true then l else insE e l
theorem any_iff (l : List S42) (e : S42) : l.any (fun x => eqE x e) = true ↔ e ∈ l := by
  rw [List.any_eq_true]
  constructor
  · rintro ⟨x, hx, h⟩
    rw [← (eqE_iff _ _).1 h]
    exact hx
  · exact fun h => ⟨e, h, (eqE_iff _ _).2 rfl⟩
theorem l12Edge (l : List S42) (e : S42) (hl : l.length ≤ 1100000) (k : Nat) (hk : l.length < k) : spec_l12Edge.f k l e.f0 e.f1 = some (putE l e) := by
  have h := l12_ahead e.f0 e.f1 l.length k [] l rfl hk (by simp; omega)
  unfold putE
  by_cases c : e ∈ l
  · rw [if_pos ((any_iff l e).2 c)]
    exact h.1 c
  · rw [if_neg (fun h' => c ((any_iff l e).1 h'))]
    exact h.2 c
theorem putE_mem (l : List S42) (e x : S42) : x ∈ putE l e ↔ x ∈ l ∨ x = e := by
  unfold putE
  split
  · rename_i c
    have := (any_iff l e).1 c
    exact ⟨.inl, fun h => h.elim id fun h => h ▸ this⟩
  · rw [insE_mem]; exact or_comm
theorem putE_rise (l : List S42) (e : S42) (h : l.Pairwise (fun x y => ltE x y = true)) : (putE l e).Pairwise (fun x y => ltE x y = true) := by
  unfold putE
  split
  · exact h
  · rename_i c
    exact insE_rise e l h fun h' => c ((any_iff l e).2 h')
theorem insE_len (e : S42) : ∀ l : List S42, (insE e l).length = l.length + 1
  | [] => rfl
  | x :: r => by
    unfold insE
    split
    · rfl
    · simp [insE_len e r]
theorem putE_len (l : List S42) (e : S42) : (putE l e).length ≤ l.length + 1 := by
  unfold putE
  split
  · omega
  · rw [insE_len]; omega
def edgeOf (x : S39) : S42 := ⟨x.f1, x.f2⟩
def edges : List S39 → List S42
  | [] => []
  | x :: r => if x.f0 = 1 then edgeOf x :: edges r else edges r
def specE (acc : List S42) : List S39 → List S42
  | [] => acc
  | x :: r => if x.f0 = 1 then specE (putE acc (edgeOf x)) r else specE acc r
theorem specE_facts : ∀ (r : List S39) (acc : List S42), acc.Pairwise (fun x y => ltE x y = true) → (∀ x, x ∈ specE acc r ↔ x ∈ acc ∨ x ∈ edges r) ∧ (specE acc r).Pairwise (fun x y => ltE x y = true)
  | [], acc, h => ⟨fun x => by simp [specE, edges], h⟩
  | x :: r, acc, h => by
    unfold specE edges
    split
    · obtain ⟨h1, h2⟩ := specE_facts r _ (putE_rise acc (edgeOf x) h)
      refine ⟨fun y => ?_, h2⟩
      rw [h1, putE_mem, List.mem_cons, or_assoc]
    · exact specE_facts r acc h
theorem edges_len : ∀ r : List S39, (edges r).length ≤ r.length
  | [] => Nat.le_refl _
  | x :: r => by
    have := edges_len r
    unfold edges
    split <;> simp <;> omega
theorem spec_l0 (a0 : Int) (a1 : ByteArray) (a2 a3 : Int) (d : Nat) : ∀ (k : Nat) (acc : List S42) (p r : List S39), r.length = d → acc.length + 2 * d + 1 < k → p.length + d ≤ 1100000 → acc.length + d ≤ 1100000 →
    spec_EdgesOf.l0 k acc p.length a0 a1 a2 a3 (p ++ r) = some (specE acc r) := by
  induction d with
  | zero =>
    intro k acc p r hr hk hp hq
    obtain ⟨k, rfl⟩ := succ_of (show 0 < k by omega)
    have : r = [] := List.eq_nil_of_length_eq_zero hr
    subst this
    simp [spec_EdgesOf.l0, specE]
  | succ d ih =>
    intro k acc p r hr hk hp hq
    obtain ⟨k, rfl⟩ := succ_of (show 0 < k by omega)
    obtain ⟨x, t, rfl⟩ : ∃ a t, r = a :: t := by
      cases r with
      | nil => simp at hr
      | cons a t => exact ⟨a, t, rfl⟩
    have ht : t.length = d := by simpa using hr
    have ep : wrap64 ((p.length : Int) + 1) = ((p ++ [x]).length : Nat) := by rw [w64 (by omega) (by omega)]; simp
    have e1 : rd_T39 (p ++ x :: t) ((p.length : Nat) : Int) = x := rd_mid p x _ t
    simp only [spec_EdgesOf.l0, e1, ep, specE]
    rw [if_pos (by simp; omega), if_pos (by omega)]
    have eP : p ++ [x] ++ t = p ++ x :: t := by simp
    by_cases c : x.f0 = 1
    · rw [if_pos c, if_pos c, show spec_l12Edge.f k acc x.f1 x.f2 = some (putE acc (edgeOf x)) from l12Edge acc (edgeOf x) (by omega) k (by omega)]
      have hb := putE_len acc (edgeOf x)
      have := ih k (putE acc (edgeOf x)) (p ++ [x]) t ht (by omega) (by simp; omega) (by omega)
      rw [eP] at this
      exact this
    · rw [if_neg c, if_neg c]
      have := ih k acc (p ++ [x]) t ht (by omega) (by simp; omega) (by omega)
      rw [eP] at this
      exact this
theorem spec_edges (a0 : Int) (a1 : ByteArray) (a2 a3 : Int) (l : List S39) (hl : l.length ≤ 1048576) (k : Nat) (hk : 2100000 ≤ k) : spec_EdgesOf.f k a0 a1 a2 a3 l = some (specE [] l) :=
  spec_l0 a0 a1 a2 a3 l.length k [] [] l rfl (by simp; omega) (by simp; omega) (by simp; omega)
theorem in_l0 (l : List S42) (hl : l.length ≤ 1100000) (d : Nat) : ∀ (k i : Nat), i + d = l.length → d < k → impl_edgesIn.l0 k l (onceE l i) l (l.length : Int) i = some (onceE l l.length, l) := by
  induction d with
  | zero =>
    intro k i hi hk
    obtain ⟨k, rfl⟩ := succ_of hk
    simp only [impl_edgesIn.l0]
    rw [if_neg (by omega), show i = l.length by omega]
  | succ d ih =>
    intro k i hi hk
    obtain ⟨k, rfl⟩ := succ_of hk
    have hlen := onceE_len l i
    have e1 : rd_T42 l (i : Int) = l.getD i z42 := by unfold rd_T42; rw [Int.toNat_natCast]
    have ei : wrap64 ((i : Int) + 1) = ((i + 1 : Nat) : Int) := by rw [w64 (by omega) (by omega)]; rfl
    have := ih k (i + 1) (by omega) (by omega)
    rw [onceE] at this
    simp only [impl_edgesIn.l0, e1, ei]
    rw [if_pos (by omega), if_pos (by omega), if_pos (by omega)]
    by_cases h0 : i = 0
    · rw [if_pos (by omega), if_pos (by omega)]
      rw [if_pos (.inl h0)] at this
      exact this
    · have em : wrap64 ((i : Int) - 1) = ((i - 1 : Nat) : Int) := by rw [w64 (by omega) (by omega)]; omega
      have e2 : rd_T42 l ((i - 1 : Nat) : Int) = l.getD (i - 1) z42 := by unfold rd_T42; rw [Int.toNat_natCast]
      have et : (!((l.getD (i - 1) z42).f0 == (l.getD i z42).f0) || !((l.getD (i - 1) z42).f1 == (l.getD i z42).f1)) = !(eqE (l.getD (i - 1) z42) (l.getD i z42)) := by
        unfold eqE
        rw [Bool.not_and]
        rfl
      rw [if_neg (by omega), em, if_pos (by omega), if_pos (by omega), e2, et]
      rcases hb : eqE (l.getD (i - 1) z42) (l.getD i z42) with _ | _
      · rw [if_pos (show (!false) = true by decide), if_pos (by omega)]
        rw [if_pos (.inr hb)] at this
        exact this
      · rw [if_neg (show ¬ (!true) = true by decide)]
        rw [if_neg (by rw [hb]; simp [h0])] at this
        exact this
theorem in_f (l : List S42) (hl : l.length ≤ 1100000) (k : Nat) (hk : l.length < k) : impl_edgesIn.f k l = some (onceE (sortE l) l.length, sortE l) := by
  have hs := sortE_len l
  unfold impl_edgesIn.f sort_Slice.f
  rw [if_pos (by omega)]
  simp only [Option.bind_some]
  have := in_l0 (sortE l) (by omega) (sortE l).length k 0 (by omega) (by omega)
  rw [hs] at this
  exact this
theorem impl_l0 (d : Nat) : ∀ (k : Nat) (out : List S42) (p r : List S39), r.length = d → out.length + 2 * d + 1 < k → p.length + d ≤ 1100000 → out.length + d ≤ 1100000 →
    impl_EdgesOf.l0 k out (p ++ r) ((p ++ r).length : Int) p.length = some (onceE (sortE (out ++ edges r)) (out ++ edges r).length) := by
  induction d with
  | zero =>
    intro k out p r hr hk hp hq
    obtain ⟨k, rfl⟩ := succ_of (show 0 < k by omega)
    have : r = [] := List.eq_nil_of_length_eq_zero hr
    subst this
    simp only [impl_EdgesOf.l0, edges, List.append_nil]
    rw [if_neg (by omega), in_f out (by omega) k (by omega)]
    rfl
  | succ d ih =>
    intro k out p r hr hk hp hq
    obtain ⟨k, rfl⟩ := succ_of (show 0 < k by omega)
    obtain ⟨x, t, rfl⟩ : ∃ a t, r = a :: t := by
      cases r with
      | nil => simp at hr
      | cons a t => exact ⟨a, t, rfl⟩
    have ht : t.length = d := by simpa using hr
    have ep : wrap64 ((p.length : Int) + 1) = ((p ++ [x]).length : Nat) := by rw [w64 (by omega) (by omega)]; simp
    have e1 : rd_T39 (p ++ x :: t) ((p.length : Nat) : Int) = x := rd_mid p x _ t
    have eP : p ++ [x] ++ t = p ++ x :: t := by simp
    simp only [impl_EdgesOf.l0, e1, ep, edges]
    rw [if_pos (by simp; omega), if_pos (by omega), if_pos (by simp; omega)]
    by_cases c : x.f0 = 1
    · rw [if_pos c, if_pos (by omega), if_pos c]
      have := ih k (out ++ [edgeOf x]) (p ++ [x]) t ht (by simp; omega) (by simp; omega) (by simp; omega)
      rw [eP, List.append_assoc] at this
      exact this
    · rw [if_neg c, if_neg c]
      have := ih k out (p ++ [x]) t ht (by omega) (by simp; omega) (by omega)
      rw [eP] at this
      exact this
theorem impl_edges (a0 : Int) (a1 : ByteArray) (a2 a3 : Int) (l : List S39) (hl : l.length ≤ 1048576) (k : Nat) (hk : 2100000 ≤ k) : impl_EdgesOf.f k a0 a1 a2 a3 l = some (specE [] l) := by
  have h := impl_l0 l.length k [] [] l rfl (by simp; omega) (by simp; omega) (by simp; omega)
  refine h.trans (congrArg some ?_)
  rw [List.nil_append]
  obtain ⟨s1, s2⟩ := sortE_facts (edges l)
  have e : (edges l).length = (sortE (edges l)).length := s1.length_eq.symm
  rw [e]
  obtain ⟨o1, o2⟩ := onceE_facts (sortE (edges l)) s2 _ (Nat.le_refl _)
  obtain ⟨p1, p2⟩ := specE_facts l [] List.Pairwise.nil
  refine riseE_one _ _ o2 p2 fun x => ?_
  rw [o1, p1, List.take_length, s1.mem_iff]
  simp
theorem specE_len : ∀ (r : List S39) (acc : List S42), (specE acc r).length ≤ acc.length + r.length
  | [], acc => by simp [specE]
  | x :: r, acc => by
    unfold specE
    split
    · have := specE_len r (putE acc (edgeOf x)); have := putE_len acc (edgeOf x); simp; omega
    · have := specE_len r acc; simp; omega
end Go.Proofs.Ytfmlamheflbgdaa.UEdges
end
section
namespace Go.Proofs.Ytfmlamheflbgdaa.Pure
open Go.RowKit Go.Proofs.Ytfmlamheflbgdaa.PAll Go.Proofs.Ytfmlamheflbgdaa.StmtFnExactEdgesOf Go.Proofs.YtfmlamheflbgdaaW.PrintWords Go.Proofs.YtfmlamheflbgdaaW.PrintLast Go.Proofs.Ytfmlamheflbgdaa.UEdges Go.Proofs.Ytfmlamheflbgdaa.UMark Go.Proofs.Ytfmlamheflbgdaa.UBase
theorem sized (a0 : Int) (a1 : ByteArray) (a2 a3 : Int) (l : List S49) (h1 : a1.size ≤ 9223372036854775807) (hl : l.length ≤ 9223372036854775807) : ∃ r, laws_szResult.f a0 a1 a2 a3 l 1048576 = some r ∧ (r < 0 ∨ l.length ≤ 1048576) := by
  unfold laws_szResult.f
  rw [w64 (by omega) (by omega)]
  by_cases c : (1048576 : Int) - (a1.size : Int) < 0
  · rw [if_pos c]
    exact ⟨-1, rfl, .inl (by decide)⟩
  · rw [if_neg c]
    unfold laws_szEventS.f
    rw [w64 (by omega) (by omega)]
    by_cases c2 : (1048576 : Int) - (a1.size : Int) - (l.length : Int) < 0
    · rw [if_pos c2]
      exact ⟨-1, rfl, .inl (by decide)⟩
    · rw [if_neg c2]
      simp only [Option.bind_some]
      rw [if_neg c2]
      exact ⟨_, rfl, .inr (by omega)⟩
theorem FnExactEdgesOf : StmtFnExactEdgesOf.Pure := by
  intro x ⟨_, h1, _, _, hl, _⟩
  have h1' : x.f1.size ≤ 9223372036854775807 := by simpa [maxLen] using h1
  have hl' : x.f4.length ≤ 9223372036854775807 := by simpa [maxLen] using hl
  obtain ⟨a0, a1, a2, a3, l⟩ := x
  simp only at h1' hl'
  refine ⟨2300000, ?_⟩
  generalize hK : 2300000 = K
  show laws_FnExactEdgesOf.f K a0 a1 a2 a3 l = some true
  unfold laws_FnExactEdgesOf.f
  obtain ⟨r, hr, hc⟩ := sized a0 a1 a2 a3 l h1' hl'
  rw [hr]
  simp only [Option.bind_some]
  by_cases h : r < 0
  · rw [if_pos h]
  · have hn := hc.resolve_left h
    have hm : (l.map toE).length = l.length := List.length_map _
    have hz := specE_len (l.map toE) []
    simp only [List.length_nil, Nat.zero_add] at hz
    obtain ⟨K, rfl⟩ := succ_of (show 0 < K by omega)
    have tr : ∀ k, 2200000 ≤ k → laws_toResult.f k a0 a1 a2 a3 l = some (a0, a1, a2, a3, l.map toE) := fun k hk => by
      unfold laws_toResult.f
      rw [toEventS l hn k (by omega)]
      rfl
    have er : laws_eqResult.f (K + 1) a0 a1 a2 a3 (l.map toE) a0 a1 a2 a3 (l.map toE) = some true := by
      unfold laws_eqResult.f
      rw [if_pos rfl, if_pos rfl, if_pos rfl, if_pos rfl, eqEventS _ (by omega) _ (by omega)]
      rfl
    obtain ⟨y, hy⟩ := markEventS (l.map toE) (by omega) (K + 1) (by omega)
    have mr : laws_markResult.f (K + 1) a0 a1 a2 a3 (l.map toE) 1 = some (1 + 3 * ((l.map toE).length : Int), y) := by
      unfold laws_markResult.f
      rw [hy]
      rfl
    rw [if_neg h, tr _ (by omega)]
    simp only [Option.bind_some]
    rw [spec_edges a0 a1 a2 a3 _ (by omega) (K + 1) (by omega), impl_edges a0 a1 a2 a3 _ (by omega) (K + 1) (by omega)]
    simp only [Option.bind_some]
    rw [eqEdgeS _ (by omega) (K + 1) (by omega), er, mr]
    simp only [Option.bind_some, if_true, Bool.not_true]
    rw [if_neg (by omega)]
    simp only [laws_FnExactEdgesOf.j0, Bool.false_eq_true, if_false]
    rw [tr _ (by omega), markEdgeS _ (by omega) K (by omega)]
    simp only [Option.bind_some]
    rw [heldEdgeS _ (by omega) K (by omega), impl_edges a0 a1 a2 a3 _ (by omega) K (by omega)]
    simp only [Option.bind_some]
    rw [eqEdgeS _ (by omega) K (by omega)]
    simp only [Option.bind_some, if_true]
    rw [if_neg (by omega), if_neg (by omega)]
end Go.Proofs.Ytfmlamheflbgdaa.Pure
end
