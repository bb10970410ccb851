/- The evaluator: EvOpen. -/
import Derived.Test.YtifomiglajcanaaGreatDoorEvTy
import Derived.Deep.Slices
import Derived.ChangeArms
import Derived.WideShapes
import Derived.Below
set_option linter.unusedSimpArgs false
set_option linter.unusedVariables false
namespace Go.Ev
open Go.RowKit Go.Deep Go.WideShapes
set_option linter.unusedVariables false

abbrev NoB : Nat → Nat → Prop := fun _ _ => False
/-- Cells that read as these. -/
def Rd (w : World) (xs : List D) (cs : List Value) : Prop := xs.length = cs.length ∧ ∀ (j : Nat) x v, xs[j]? = some x → cs[j]? = some v → RO NoB w x v
theorem Rd.one {w : World} {x : D} {v : Value} (h : RO NoB w x v) : Rd w [x] [v] := ⟨rfl, fun j y u a b => by
  cases j with
  | zero => simp at a b; subst a; subst b; exact h
  | succ j => simp at a⟩
theorem Rd.append {w : World} {xs ys : List D} {cs ds : List Value} (h : Rd w xs cs) (k : Rd w ys ds) : Rd w (xs ++ ys) (cs ++ ds) := by
  refine ⟨by simp [h.1, k.1], fun j x v a b => ?_⟩
  rcases Nat.lt_or_ge j xs.length with hj | hj
  · rw [List.getElem?_append_left hj] at a
    rw [List.getElem?_append_left (by rw [← h.1]; exact hj)] at b
    exact h.2 j x v a b
  · rw [List.getElem?_append_right hj] at a
    rw [List.getElem?_append_right (by rw [← h.1]; exact hj), ← h.1] at b
    exact k.2 _ x v a b
/-- Whatever reads as data of type t is such a list of cells. -/
structure OpD (P : Program) (t : TypeId) (sz : Nat) (ok : List D → Prop) : Prop where
  one : P.cellsOf t = sz
  len : ∀ xs, ok xs → xs.length = sz
  two : ∀ {H : Type} {enc : TypeId × Value → H} {w : World} {base : Nat} {spare : Nat → Bool} {held : Bool} {fuel : Nat} {cs : List Value} {x : DataW H × List MemPlace},
    DataW.trod enc P w base spare held fuel t cs = some x → ∃ xs, Rd w xs cs ∧ ok xs
def isI (k : IntKind) (xs : List D) : Prop := ∃ n, xs = [.p (.int k n)] ∧ (Lit.int k n).wf = true
def isB (xs : List D) : Prop := ∃ b, xs = [.p (.bool b)]
def isS (xs : List D) : Prop := ∃ s : ByteArray, xs = [.p (.string s)] ∧ s.size ≤ maxLen
def isL (f : Bool) (sz : Nat) (ok : List D → Prop) (xs : List D) : Prop := ∃ rows, xs = [.l f sz rows] ∧ rows.length ≤ maxLen ∧ ∀ r ∈ rows, ok r
def isP2 (a b : List D → Prop) (xs : List D) : Prop := ∃ ys zs, xs = ys ++ zs ∧ a ys ∧ b zs
variable {P : Program} {t : TypeId}
theorem opd_int {k : IntKind} (hu : P.underlying t = some (.int k)) (hc : P.cellsOf t = 1) : OpD P t 1 (isI k) :=
  ⟨hc, fun xs ⟨n, h, _⟩ => by rw [h]; rfl, fun h => by
    obtain ⟨n, rfl, _, hw⟩ := DataW.trod_int hu h
    exact ⟨_, Rd.one (.p _ rfl), n, rfl, hw⟩⟩
theorem opd_bool (hu : P.underlying t = some .bool) (hc : P.cellsOf t = 1) : OpD P t 1 isB :=
  ⟨hc, fun xs ⟨n, h⟩ => by rw [h]; rfl, fun h => by
    obtain ⟨n, rfl, _⟩ := DataW.trod_bool hu h
    exact ⟨_, Rd.one (.p _ rfl), n, rfl⟩⟩
theorem opd_string (hu : P.underlying t = some .string) (hc : P.cellsOf t = 1) : OpD P t 1 isS :=
  ⟨hc, fun xs ⟨n, h, _⟩ => by rw [h]; rfl, fun h => by
    obtain ⟨n, rfl, _, hs⟩ := DataW.trod_string hu h
    exact ⟨_, Rd.one (.p _ rfl), n, rfl, hs⟩⟩
theorem opd_slice {e : TypeId} {sz : Nat} {ok : List D → Prop} (hsz : 0 < sz) (f : Bool) (hf : f = true → ∀ xs, ok xs → xs.all D.isP = true) (hu : P.underlying t = some (.slice e)) (hc : P.cellsOf t = 1) (he : OpD P e sz ok) : OpD P t 1 (isL f sz ok) :=
  ⟨hc, fun xs ⟨n, h, _⟩ => by rw [h]; rfl, fun {H enc w base spare held fuel cs x} h => by
    rcases open_slice hu h with ⟨rfl, _⟩ | ⟨a, len, cap, m, n, D', Pl, rfl, hb, hl, hm, hmm, _, hi⟩
    · exact ⟨_, Rd.one (.l f sz [] none 0 (fun _ _ => undef) (Nat.le_refl _) (by simp) (by simp) (by simp) (by simp)), [], rfl, Nat.zero_le _, by simp⟩
    · have hle : len ≤ m := by
        rw [hmm]
        split
        · exact hl
        · exact Nat.le_refl _
      have key : ∀ j, j ≤ len → ∃ rows : List (List D), rows.length = j ∧ (∀ r ∈ rows, ok r) ∧ ∀ i r, rows[i]? = some r → ∃ c, w.cells? base (a.add (i * sz)) sz = some c ∧ Rd w r c := by
        intro j
        induction j with
        | zero => exact fun _ => ⟨[], rfl, by simp, by simp⟩
        | succ j ih =>
          intro hj
          obtain ⟨rows, hx, ho, hg⟩ := ih (by omega)
          obtain ⟨cs', hcs, ht⟩ := hi j (by omega)
          obtain ⟨y, hK, hy⟩ := he.two ht
          rw [he.one] at hcs
          refine ⟨rows ++ [y], by simp [hx], fun z hz => ?_, fun i p hp => ?_⟩
          · rcases List.mem_append.1 hz with hz | hz
            · exact ho z hz
            · rw [List.mem_singleton.1 hz]; exact hy
          · rcases Nat.lt_or_ge i rows.length with hi' | hi'
            · rw [List.getElem?_append_left hi'] at hp; exact hg i p hp
            · rw [List.getElem?_append_right hi'] at hp
              have hi0 : i - rows.length = 0 := by
                rcases Nat.eq_zero_or_pos (i - rows.length) with h0 | h0
                · exact h0
                · rw [List.getElem?_eq_none (by simp; omega)] at hp; cases hp
              rw [hi0] at hp
              have hp' : y = p := by simpa using hp
              subst hp'
              have hij : i = j := by omega
              subst hij
              exact ⟨cs', hcs, hK⟩
      obtain ⟨rows, hx, ho, hg⟩ := key len (Nat.le_refl _)
      have hz : ∀ r ∈ rows, r.length = sz := fun r hr => he.len r (ho r hr)
      have hat : ∀ i r, rows[i]? = some r → ∀ j, j < sz → a.spot = none ∧ ∃ v, w.cell? ⟨a.block, a.off + (i * sz + j), none⟩ = some v ∧ ∀ y, r[j]? = some y → RO NoB w y v := fun i r hr j hj => by
        obtain ⟨c, hc, hR⟩ := hg i r hr
        obtain ⟨q1, q2, q3⟩ := World.cells?_some hc
        have hlt : ∀ i < len, a.spot = none := fun i hi2 => by
          have h0 : (0 : Nat) < rows.length := by omega
          obtain ⟨c0, hc0, _⟩ := hg 0 _ (List.getElem?_eq_getElem h0)
          obtain ⟨_, k2, k3⟩ := World.cells?_some hc0
          have := k3 0 (by omega)
          have hv : (0 : Nat) < c0.length := by omega
          rw [List.getElem?_eq_getElem hv] at this
          simp only [Nat.zero_mul, Addr.add, if_true] at this
          unfold World.cell? at this
          split at this
          · split at this
            · cases this
            · rename_i hs; simpa using hs
          · cases this
        have hil : i < rows.length := (List.getElem?_eq_some_iff.1 hr).1
        have hs := hlt i (by omega)
        have hadd : (a.add (i * sz)).add j = ⟨a.block, a.off + (i * sz + j), none⟩ := by
          obtain ⟨b, o, s⟩ := a
          simp only at hs; subst hs
          by_cases h1 : i * sz = 0 <;> by_cases h2 : j = 0 <;> simp [Addr.add, h1, h2] <;> omega
        have hv : j < c.length := by omega
        refine ⟨hs, c[j], ?_, fun y hy => hR.2 j y _ hy (List.getElem?_eq_getElem hv)⟩
        rw [← hadd, q3 j hj, List.getElem?_eq_getElem hv]
      have hlm : len ≤ maxLen := by omega
      refine ⟨_, Rd.one (v := .slice (some a) len cap) ?_, rows, rfl, by omega, ho⟩
      rw [← hx]
      refine .l f sz rows (some a) cap (fun i j => (w.cell? ⟨a.block, a.off + (i * sz + j), none⟩).getD undef) (by omega) hz (fun hff r hr => hf hff r (ho r hr)) (fun hne => ?_) fun i r j y hr hy => ?_
      · refine ⟨a.block, a.off, ?_, fun i j hi2 hj => ?_⟩
        · have h0 : 0 < rows.length := List.length_pos_iff.2 hne
          have := (hat 0 _ (List.getElem?_eq_getElem h0) 0 hsz).1
          obtain ⟨b, o, s⟩ := a
          simp only at this; subst this; rfl
        · obtain ⟨_, v, h1, _⟩ := hat i _ (List.getElem?_eq_getElem hi2) j hj
          exact ⟨by rw [h1]; rfl, fun h => h⟩
      · have hj : j < sz := by rw [← hz r (List.mem_of_getElem? hr)]; exact (List.getElem?_eq_some_iff.1 hy).1
        obtain ⟨_, v, h1, h2⟩ := hat i r hr j hj
        rw [h1]; exact h2 y hy⟩

/-- The fields from a place on. -/
structure OpAt (P : Program) (fs : List Field) (off sz : Nat) (ok : List D → Prop) : Prop where
  len : ∀ xs, ok xs → xs.length = sz
  at_ : ∀ {H : Type} {enc : TypeId × Value → H} {w : World} {base : Nat} {spare : Nat → Bool} {held : Bool} {n : Nat} {cs : List Value}, cs.length = off + sz →
    (∀ f ∈ fs, ∃ x, DataW.trod enc P w base spare held n f.type ((cs.drop f.offset).take (P.cellsOf f.type)) = some x) → ∃ xs, Rd w xs (cs.drop off) ∧ ok xs
theorem opAt_one {f : Field} {off sz : Nat} {ok : List D → Prop} (ho : f.offset = off) (he : OpD P f.type sz ok) : OpAt P [f] off sz ok := by
  refine ⟨he.len, fun {H enc w base spare held n cs} hl hf => ?_⟩
  obtain ⟨x, hx⟩ := hf f (List.mem_singleton.2 rfl)
  rw [ho, he.one, List.take_of_length_le (by rw [List.length_drop]; omega)] at hx
  exact he.two hx
theorem opAt_cons {f : Field} {fs : List Field} {off sz sz' : Nat} {ok ok' : List D → Prop} (ho : f.offset = off) (he : OpD P f.type sz ok) (hr : OpAt P fs (off + sz) sz' ok') : OpAt P (f :: fs) off (sz + sz') (isP2 ok ok') := by
  refine ⟨fun xs ⟨ys, zs, e, a, b⟩ => by rw [e, List.length_append, he.len _ a, hr.len _ b], fun {H enc w base spare held n cs} hl hf => ?_⟩
  obtain ⟨x, hx⟩ := hf f List.mem_cons_self
  rw [ho, he.one] at hx
  obtain ⟨ys, ha, hoa⟩ := he.two hx
  obtain ⟨zs, hb, hob⟩ := hr.at_ (cs := cs) (by omega) (fun g hg => hf g (List.mem_cons_of_mem _ hg))
  refine ⟨ys ++ zs, ?_, ys, zs, rfl, hoa, hob⟩
  have := ha.append hb
  have e : cs.drop (off + sz) = (cs.drop off).drop sz := by rw [List.drop_drop]
  rw [e, List.take_append_drop] at this
  exact this
theorem opd_struct {fs : Array Field} {sz : Nat} {ok : List D → Prop} (hu : P.underlying t = some (.struct fs)) (hc : P.cellsOf t = sz) (h : OpAt P fs.toList 0 sz ok) : OpD P t sz ok :=
  ⟨hc, h.len, fun {H enc w base spare held fuel cs x} ht => by
    obtain ⟨xs, n, _, _, hl, hxl, hf⟩ := DataW.trod_struct hu ht
    obtain ⟨a, ha, hoa⟩ := h.at_ (enc := enc) (w := w) (base := base) (spare := spare) (held := held) (n := n) (cs := cs) (by rw [hl, hc]; omega) (fun q hq => by
      obtain ⟨i, hi, he⟩ := List.mem_iff_getElem.1 hq
      have hi' : fs[i]? = some q := by
        rw [← he]
        simp
      have hh := hf i q hi'
      have : i < xs.length := by
        rw [hxl]
        simpa using hi
      exact ⟨_, hh.trans (List.getElem?_eq_getElem this)⟩)
    exact ⟨a, by simpa using ha, hoa⟩⟩
end Go.Ev
