/- An argument that reads as data, of whatever type of ints, bools, strings, structs and slices of these, reads as a value of its kind. -/
import Derived.Test.YtdjomoogldkpfaaWWords
import Derived.Deep.Slices
import Derived.ChangeArms
import Derived.WideShapes
namespace Go.Proofs.Ytdjomoogldkpfaa.Open
open Go.RowKit Go.Deep Go.WideShapes Go.Proofs.YtdjomoogldkpfaaW.PrintWords
universe u v

/-- Whatever reads as data of type t is a value of kind d, and is good. -/
structure Opens {α : Type} (P : Program) (t : TypeId) (d : Kd α) (ok : α → Prop) : Prop where
  mk ::
  one : P.cellsOf t = d.sz
  two : ∀ {H : Type} {enc : TypeId × Value → H} {w : World} {base : Nat} {spare : Nat → Bool} {held : Bool} {fuel : Nat} {cs : List Value} {x : DataW H × List MemPlace},
    DataW.trod enc P w base spare held fuel t cs = some x → ∃ a, d.K w a cs ∧ ok a

theorem opens_int {P : Program} {t : TypeId} {k : IntKind} (hu : P.underlying t = some (.int k)) (hc : P.cellsOf t = 1) : Opens P t (Kd.int k) (fun a => (Lit.int k a).wf = true) :=
  ⟨hc, fun h => by
    obtain ⟨n, rfl, _, hw⟩ := DataW.trod_int hu h
    exact ⟨n, rfl, hw⟩⟩
theorem opens_bool {P : Program} {t : TypeId} (hu : P.underlying t = some .bool) (hc : P.cellsOf t = 1) : Opens P t Kd.bool (fun _ => True) :=
  ⟨hc, fun h => by
    obtain ⟨n, rfl, _⟩ := DataW.trod_bool hu h
    exact ⟨n, rfl, trivial⟩⟩
theorem opens_string {P : Program} {t : TypeId} (hu : P.underlying t = some .string) (hc : P.cellsOf t = 1) : Opens P t Kd.string (fun s => s.size ≤ maxLen) :=
  ⟨hc, fun h => by
    obtain ⟨n, rfl, _, hs⟩ := DataW.trod_string hu h
    exact ⟨n, rfl, hs⟩⟩
theorem opens_slice {α : Type} {P : Program} {t e : TypeId} {d : Kd α} {ok : α → Prop} (hu : P.underlying t = some (.slice e)) (hc : P.cellsOf t = 1) (he : Opens P e d ok) :
    Opens P t (Kd.slice e d) (fun l => l.length ≤ maxLen ∧ ∀ x ∈ l, ok x) :=
  ⟨hc, fun {H enc w base spare held fuel cs x} h => by
    rcases open_slice hu h with ⟨rfl, _⟩ | ⟨a, len, cap, m, n, D, Pl, rfl, hb, hl, hm, hmm, _, hi⟩
    · exact ⟨[], ⟨none, 0, rfl, Nat.le_refl _, Kd.C_nil d w⟩, Nat.zero_le _, fun y hy => by simp at hy⟩
    · have hle : len ≤ m := by
        rw [hmm]
        split
        · exact hl
        · exact Nat.le_refl _
      have key : ∀ j, j ≤ len → ∃ xs : List α, xs.length = j ∧ (∀ y ∈ xs, ok y) ∧ ∀ i p, xs[i]? = some p → ∃ c, c.length = d.sz ∧ d.K w p c ∧ ∀ q u, c[q]? = some u → w.cell? (a.add (i * d.sz + q)) = some u := by
        intro j
        induction j with
        | zero => exact fun _ => ⟨[], rfl, fun y hy => by simp at hy, fun i p hp => by simp at hp⟩
        | succ j ih =>
          intro hj
          obtain ⟨xs, hx, ho, hg⟩ := ih (by omega)
          obtain ⟨cs', hcs, ht⟩ := hi j (by omega)
          obtain ⟨y, hK, hy⟩ := he.two ht
          rw [he.one] at hcs
          obtain ⟨_, hcl, hat⟩ := World.cells?_some hcs
          refine ⟨xs ++ [y], by simp [hx], fun z hz => ?_, fun i p hp => ?_⟩
          · rcases List.mem_append.1 hz with hz | hz
            · exact ho z hz
            · rw [List.mem_singleton.1 hz]
              exact hy
          · rcases Nat.lt_or_ge i xs.length with hi' | hi'
            · rw [List.getElem?_append_left hi'] at hp
              exact hg i p hp
            · rw [List.getElem?_append_right hi'] at hp
              have hi0 : i - xs.length = 0 := by
                rcases Nat.eq_zero_or_pos (i - xs.length) with h0 | h0
                · exact h0
                · rw [List.getElem?_eq_none (by simp; omega)] at hp
                  cases hp
              rw [hi0] at hp
              have hp' : y = p := by simpa using hp
              subst hp'
              have hij : i = j := by omega
              subst hij
              refine ⟨cs', hcl, hK, fun q u hq => ?_⟩
              have hql : q < d.sz := by
                rcases Nat.lt_or_ge q cs'.length with h0 | h0
                · omega
                · rw [List.getElem?_eq_none h0] at hq
                  cases hq
              have := hat q hql
              rw [hq] at this
              rw [← Go.Deep.add_add]
              exact this
      obtain ⟨xs, hx, ho, hg⟩ := key len (Nat.le_refl _)
      have hlm : len ≤ 9223372036854775807 := by
        have : cap ≤ maxLen := hm
        simp only [maxLen] at this
        omega
      refine ⟨xs, ⟨some a, cap, by rw [hx], by omega, ⟨rfl, by omega, fun _ => ⟨a, rfl, hg⟩⟩⟩, by omega, ho⟩⟩

/-- The fields from a place on. -/
structure OpensAt {α : Type} (P : Program) (fs : List Field) (off : Nat) (d : Kd α) (ok : α → Prop) : Prop where
  mk ::
  at_ : ∀ {H : Type} {enc : TypeId × Value → H} {w : World} {base : Nat} {spare : Nat → Bool} {held : Bool} {n : Nat} {cs : List Value}, cs.length = off + d.sz →
    (∀ f ∈ fs, ∃ x, DataW.trod enc P w base spare held n f.type ((cs.drop f.offset).take (P.cellsOf f.type)) = some x) → ∃ a, d.K w a (cs.drop off) ∧ ok a

theorem opensAt_one {α : Type} {P : Program} {f : Field} {off : Nat} {d : Kd α} {ok : α → Prop} (ho : f.offset = off) (he : Opens P f.type d ok) : OpensAt P [f] off d ok := by
  refine ⟨fun {H enc w base spare held n cs} hl hf => ?_⟩
  obtain ⟨x, hx⟩ := hf f (List.mem_singleton.2 rfl)
  rw [ho, he.one, List.take_of_length_le (by rw [List.length_drop]; omega)] at hx
  exact he.two hx
theorem opensAt_cons {α β : Type} {P : Program} {f : Field} {fs : List Field} {off : Nat} {d : Kd α} {d' : Kd β} {ok : α → Prop} {ok' : β → Prop} (ho : f.offset = off) (he : Opens P f.type d ok) (hr : OpensAt P fs (off + d.sz) d' ok') :
    OpensAt P (f :: fs) off (Kd.pair d d') (fun p => ok p.1 ∧ ok' p.2) := by
  refine ⟨fun {H enc w base spare held n cs} hl hf => ?_⟩
  have hl' : cs.length = off + (d.sz + d'.sz) := hl
  obtain ⟨x, hx⟩ := hf f List.mem_cons_self
  rw [ho, he.one] at hx
  obtain ⟨a, ha, hoa⟩ := he.two hx
  obtain ⟨b, hb, hob⟩ := hr.at_ (cs := cs) (by omega) (fun g hg => hf g (List.mem_cons_of_mem _ hg))
  refine ⟨(a, b), ⟨_, _, ?_, ha, hb⟩, hoa, hob⟩
  have e : cs.drop (off + d.sz) = (cs.drop off).drop d.sz := by rw [List.drop_drop]
  rw [e, List.take_append_drop]
theorem opens_struct {α β : Type} {P : Program} {t : TypeId} {fs : Array Field} {d : Kd α} {ok : α → Prop} {f : β → α} (g : α → β) (hu : P.underlying t = some (.struct fs)) (hc : P.cellsOf t = d.sz) (hg : ∀ a, f (g a) = a) (h : OpensAt P fs.toList 0 d ok) :
    Opens P t (Kd.iso d f) (fun b => ok (f b)) :=
  ⟨hc, fun {H enc w base spare held fuel cs x} ht => by
    obtain ⟨xs, n, _, _, hl, hxl, hf⟩ := DataW.trod_struct hu ht
    obtain ⟨a, ha, hoa⟩ := h.at_ (enc := enc) (w := w) (base := base) (spare := spare) (held := held) (n := n) (cs := cs) (by rw [hl, hc]; omega) (fun q hq => by
      obtain ⟨i, hi, he⟩ := List.mem_iff_getElem.1 hq
      have hi' : fs[i]? = some q := by
        rw [← he]
        simp
      have hh := hf i q hi'
      have : i < xs.length := by
        rw [hxl]
        simpa using hi
      exact ⟨_, hh.trans (List.getElem?_eq_getElem this)⟩)
    refine ⟨g a, ?_, ?_⟩
    · show d.K w (f (g a)) cs
      rw [hg]
      simpa using ha
    · show ok (f (g a))
      rw [hg]
      exact hoa⟩

section args
variable {α : Type} {P : Program} {t : TypeId} {d : Kd α} {ok : α → Prop} {okl : List α → Prop} {H : Type} {enc : TypeId × Value → H} {w : World} {base : Nat} {spare : Nat → Bool} {held : Bool} {v : Value} {dt : DataW H} {p : List MemPlace} {r : Reach} {b0 : Nat}
/-- An argument that is a slice. -/
theorem arg_slice {e : TypeId} (hu : P.underlying t = some (.slice e)) (ho : Opens P t (Kd.slice e d) okl) (hv : Value.okWide P w r b0 t v) (h : DataW.Trod enc P w base spare held t v dt p) :
    ∃ (A : Option Addr) (c : Nat) (l : List α), v = .slice A l.length c ∧ l.length ≤ c ∧ d.C w A l.length l ∧ okl l := by
  obtain ⟨a, len, cap, rfl⟩ := okWide_slice hu hv
  obtain ⟨fuel, hf⟩ := h
  obtain ⟨l, ⟨A, c, he, hl, hC⟩, hok⟩ := ho.two hf
  have he' : [Value.slice a len cap] = [.slice A l.length c] := he
  exact ⟨A, c, l, (List.cons.inj he').1, hl, hC, hok⟩
/-- An argument that is a struct by value. -/
theorem arg_struct {fs : Array Field} (hu : P.underlying t = some (.struct fs)) (ho : Opens P t d ok) (hv : Value.okWide P w r b0 t v) (h : DataW.Trod enc P w base spare held t v dt p) :
    ∃ (cs : List Value) (a : α), v = .agg cs.toArray ∧ d.K w a cs ∧ ok a := by
  obtain ⟨cs, rfl, _⟩ := okWide_struct hu hv
  obtain ⟨fuel, hf⟩ := h
  obtain ⟨a, hK, hok⟩ := ho.two hf
  exact ⟨cs.toList, a, rfl, hK, hok⟩
end args
end Go.Proofs.Ytdjomoogldkpfaa.Open
