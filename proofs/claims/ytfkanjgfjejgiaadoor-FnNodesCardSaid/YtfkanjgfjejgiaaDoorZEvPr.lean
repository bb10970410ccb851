/- Functions of Go's library that the program reaches, by their contracts. -/
import Derived.Shelf.Strings.Split
import Derived.Shelf.Strings.OnBuilder
import Derived.Shelf.Strconv.Itoa4
import Derived.Test.YtfkanjgfjejgiaaDoorZShelf
import Derived.Test.YtfkanjgfjejgiaaDoorZEvTb
import Derived.Test.YtfkanjgfjejgiaaDoorEvPrim
import Derived.WalkKit
import Derived.BigCall
import Derived.KernelRfl
set_option linter.unusedSimpArgs false
set_option linter.unusedVariables false
namespace Go.Proofs.YtfkanjgfjejgiaaDoorE
open Go.Ev Go.RowKit Go.Shelf Go.Lib Go.Sort
set_option linter.unusedVariables false

set_option maxHeartbeats 1000000 in
theorem split_any {P : Program} {ρ : Ren} (L : Lays.n146 P ρ) (hi9 : (P.info? (ρ.t 9)).map (fun i => (i.zero, i.size, i.bytes)) = some (some (.string ByteArray.empty), 1, 16)) (s sep : ByteArray) (w : World)
    (hs : s.size < 4294967281) (h1 : sep.size = 1) :
    Calls P (ρ.f 146) #[.string s, .string sep] w fun e w' =>
      e = .returned (.slice (some ⟨w.heap.size, 0, none⟩) (Lib.countB s sep + 1) (Lib.countB s sep + 1)) ∧ w' = w.alloc (.cells ((Lib.splitB sep 0 (Lib.countB s sep) s).map Value.string).toArray (ρ.t 9)) := by
  have hle := Lib.countB_le sep (by omega) s.size s (Nat.le_refl _)
  have hlen := Lib.splitB_all sep (by omega) 0 _ s rfl
  obtain ⟨b, hb⟩ := Lib.one_byte sep h1
  have c := Any.strings_genSplit_core { L with } hi9 s sep 0 (-1) (Lib.countB s sep + 1) w hs (by omega) (Nat.zero_le _)
    (fun x c _ => by
      subst hb
      refine (Any.strings_Index_one { L with } x b _).mono fun e w' ⟨he, hw⟩ => ⟨?_, hw⟩
      rw [he]
      show _ = Ending.returned (Value.int .i64 (Lib.index x.data.toList [b]))
      rw [Lib.index_one])
    (by
      subst hb
      refine (Any.strings_Count_one { L with } s b w).mono fun e w' ⟨he, hw⟩ => ⟨?_, hw⟩
      rw [he]
      show _ = Ending.returned (Value.int .i64 ((Lib.count s.data.toList [b] : Nat) : Int))
      rw [Lib.count_one]
      rfl)
    (by decide) (by decide) (by rw [if_pos (by decide)]; omega)
  rw [Nat.add_sub_cancel, hlen] at c
  have e2 : Lib.cellsOf (Lib.splitB sep 0 (Lib.countB s sep) s) (Lib.countB s sep + 1) = ((Lib.splitB sep 0 (Lib.countB s sep) s).map Value.string).toArray := by rw [← hlen]; exact Lib.cellsOf_full _
  rw [e2] at c
  have t3 := L.t3; have t9 := L.t9; have t31 := L.t31
  have a3 := L.a3; have a9 := L.a9; have a31 := L.a31
  have z3 := L.z3; have v3 := L.v3; have z9 := L.z9; have v9 := L.v9; have z31 := L.z31; have v31 := L.v31
  have e221 : ∀ args w, (callFunc (ρ.f 221) args).run P w = .ok (.enter (ρ.f 221) args) w := enters_of L.f221 (by kernel_rfl) rfl
  clear hb hle
  go_enter L.f146, Body.n146_ntmps ρ
  go_wp2_with (go_at_fn (ρ.f 221); refine c.mono ?_; rintro e w' ⟨rfl, hw⟩; rw [hw])
  go_ret
  exact ⟨rfl, rfl⟩


/-- The pieces of a text. -/
def strings_Split.f (a b : ByteArray) : Option (List ByteArray) := if a.size < 4294967281 ∧ b.size = 1 then some (Lib.splitB b 0 (Lib.countB a b) a) else none
def primSplit : List T → Option Res
  | [.d (.p (.string a)), .d (.p (.string b))] => (strings_Split.f a b).map fun r => ([.own true 1 (r.map eS)], [])
  | _ => none
theorem info_str : (Tryd.prog.info? 9).map (fun i => (i.zero, i.size, i.bytes)) = some (some (.string ByteArray.empty), 1, 16) := by kernel_rfl
theorem primSplit_ok [Base] : CallOk Tryd.prog fun g ts => if g = 103 then primSplit ts else none :=
  callOk_one ⟨Tryd.f103, by kernel_rfl, by kernel_rfl, rfl⟩ fun ts rs ps e => by
    unfold primSplit at e
    split at e
    · rename_i a b
      simp only [Option.map_eq_some_iff] at e
      obtain ⟨r, hr, e⟩ := e
      cases e
      unfold strings_Split.f at hr
      split at hr
      · rename_i hc
        obtain rfl := Option.some.inj hr
        intro X w us A hts hd hA hX hbs
        obtain ⟨rfl, rfl⟩ := hts.two
        have hlen := Lib.splitB_all b (by omega) 0 _ a rfl
        have hmax : Lib.countB a b + 1 ≤ maxLen := by
          have := Lib.countB_le b (by omega) a.size a (Nat.le_refl _)
          unfold maxLen
          omega
        exact ok_newS rfl _ _ hlen.symm 9 hmax hX (split_any Tryd.lays146 info_str a b w hc.1 hc.2)
      · cases hr
    · cases e
/-- What the library's tables and errors must hold. -/
structure Laid (w : World) : Prop where
  tab : Lib.TabIs Tryd.prog w "internal/strconv.uint64pow10" .u64 Lib.pow10Tab
theorem Laid.keep {w w' : World} (l : Laid w) (h : ∀ g, g < w.heap.size → w'.heap[g]? = w.heap[g]?) : Laid w' := by
  refine ⟨?_⟩
  · have := l.tab
    unfold Lib.TabIs at this ⊢
    rw [← this]
    simp only [World.var?] at this ⊢
    cases hg : Tryd.prog.globalNamed "internal/strconv.uint64pow10" with
    | none => rfl
    | some g =>
      simp only [hg, Option.bind_some] at this ⊢
      rw [h g]
      by_cases hs : g < w.heap.size
      · exact hs
      · rw [Array.getElem?_eq_none (by omega)] at this; cases this
theorem Fr.below {M : Nat → Nat → Prop} {w w' : World} (b : Below w.heap.size w w') : Fr M w w' :=
  ⟨b.os, b.tape, b.output, b.size, fun g hg _ => b.block g hg, fun g o hg _ => ⟨b.cell hg, b.frozen hg⟩⟩
theorem below_grow (w : World) (k : Nat) (os : Array Obj) : Below w.heap.size w (grow (w.drewN k) os) :=
  ⟨rfl, rfl, rfl, by show _ ≤ (w.heap ++ os).size; simp, fun i hi => by show (w.heap ++ os)[i]? = _; rw [Array.getElem?_append_left hi]⟩
/-- Cells as results. -/
theorem ok_plain {g : Nat} {ts : List T} {vs : List Value} (h1 : ∀ v ∈ vs, v.oneCell' = true) (hp : ∀ us, ptrsOf ts us = []) {X : Nat → Nat → Prop} {w : World} {us : Array Value}
    (c : Calls Tryd.prog g us w fun e w' => e = .returned (tupVal vs) ∧ Below w.heap.size w w') :
    Calls Tryd.prog g us w fun e w' => ∃ rvs A1 A2, e = .returned (tupVal rvs) ∧ TRs (Or2 X (cellsL (A1 ++ A2))) w' (vs.map fun v => .d (.p v)) rvs A1 ∧ TRs (Or2 X (cellsL (A1 ++ A2))) w' [] (ptrsOf ts us.toList) A2 ∧ Disj (A1 ++ A2) ∧
      (∀ g o, cellsL (A1 ++ A2) g o → ¬ X g o) ∧ Fr (cellsL []) w w' ∧ ∀ g o, g < w.heap.size → cellsL (A1 ++ A2) g o → cellsL [] g o := by
  refine c.mono ?_
  rintro e w' ⟨rfl, hb⟩
  refine ⟨vs, [], [], rfl, ?_, by rw [hp]; exact .nil, .nil, fun g o ⟨p, q, _⟩ => (by cases q), Fr.below hb, fun g o _ h => h⟩
  clear hb c
  induction vs with
  | nil => exact .nil
  | cons v vs ih => exact TRs.cons (A := []) (L := []) (.c (.d (.p v (h1 v (List.mem_cons_self ..))))) (ih fun x hx => h1 x (List.mem_cons_of_mem _ hx))
def impl_Dec.f (n : Int) : Option ByteArray := if -9223372036854775808 ≤ n ∧ n ≤ 9223372036854775807 then some ⟨(Lib.itoa n).toArray⟩ else none
def primDec : List T → Option Res
  | [.d (.p (.int .i64 n))] => (impl_Dec.f n).map fun r => ([.d (.p (.string r))], [])
  | _ => none
theorem dec_walk (n : Int) (h0 : -9223372036854775808 ≤ n) (h1 : n ≤ 9223372036854775807) (w : World) (l : Laid w) :
    Calls Tryd.prog 70 #[.int .i64 n] w fun e w' => e = .returned (.string ⟨(Lib.itoa n).toArray⟩) ∧ Below w.heap.size w w' := by
  go_enter Tryd.func70, Tryd.ntmps70
  go_wp2_with (go_at_call 102; refine (Any.strconv_Itoa Tryd.lays171 n h0 h1 _ l.tab).mono ?_; rintro e w' ⟨rfl, k, os, rfl⟩)
  go_ret
  exact ⟨rfl, below_grow _ _ _⟩
theorem primDec_ok [Base] (l0 : Laid Base.w0) : CallOk Tryd.prog fun g ts => if g = 70 then primDec ts else none :=
  callOk_one ⟨Tryd.f70, by kernel_rfl, by kernel_rfl, rfl⟩ fun ts rs ps e => by
    unfold primDec at e
    split at e
    · rename_i n
      simp only [Option.map_eq_some_iff] at e
      obtain ⟨r, hr, e⟩ := e
      cases e
      unfold impl_Dec.f at hr
      split at hr
      · rename_i hc
        obtain rfl := Option.some.inj hr
        intro X w us A hts hd hA hX hbs
        obtain ⟨rfl, rfl⟩ := hts.one
        exact ok_plain (ts := [.d (.p (.int .i64 n))]) (vs := [.string _]) (by simp [Value.oneCell']) (fun us => by cases us <;> rfl) (dec_walk n hc.1 hc.2 w (l0.keep hbs.2.1))
      · cases hr
    · cases e
/-! ### strings.Join -/
theorem joinExtra : Builder.Extra Tryd.prog Tryd.lays156_ren where
  sizeBuilder := by kernel_rfl
  liesBuilder := by kernel_rfl
  t5 := Tryd.underlying5
  a5 := Tryd.isAgg5
  z5 := Tryd.sizeOf5
  v5 := Tryd.zeroValue5
  infoByte := by kernel_rfl
  cellsByte := by kernel_rfl
  sizeByte := by kernel_rfl
  neB5 := by decide
def strings_Join.f (a : List ByteArray) (b : ByteArray) : Option ByteArray :=
  if a.length ≤ 1000000 ∧ (Lib.join (a.map (·.data.toList)) b.data.toList).length ≤ 140737488355328 then some ⟨(Lib.join (a.map (·.data.toList)) b.data.toList).toArray⟩ else none
def strsOf : List (List D) → Option (List ByteArray)
  | [] => some []
  | [.p (.string s)] :: r => (strsOf r).map (s :: ·)
  | _ => none
theorem strsOf_map : ∀ l : List ByteArray, strsOf (l.map eS) = some l
  | [] => rfl
  | s :: l => by simp [strsOf, eS, strsOf_map l]
theorem strsOf_eq : ∀ {xs : List (List D)} {l : List ByteArray}, strsOf xs = some l → xs = l.map eS
  | [], l, h => by cases h; rfl
  | x :: xs, l, h => by
    unfold strsOf at h
    split at h
    · rename_i e; cases e
    · rename_i s r e
      cases e
      simp only [Option.map_eq_some_iff] at h
      obtain ⟨l', h, rfl⟩ := h
      rw [strsOf_eq h]; rfl
    · cases h
def primJoin : List T → Option Res
  | [.d (.l _ 1 xs), .d (.p (.string b))] => (strsOf xs).bind fun a => (strings_Join.f a b).map fun r => ([.d (.p (.string r))], [])
  | _ => none
theorem join_walk {B : Nat → Nat → Prop} {w : World} {f : Bool} {a : List ByteArray} {b : ByteArray} {u : Value} (r : RO B w (.l f 1 (a.map eS)) u) (h1 : a.length ≤ 1000000) (h2 : (Lib.join (a.map (·.data.toList)) b.data.toList).length ≤ 140737488355328) :
    Calls Tryd.prog 73 #[u, .string b] w fun e w' => e = .returned (.string ⟨(Lib.join (a.map (·.data.toList)) b.data.toList).toArray⟩) ∧ Below w.heap.size w w' := by
  cases r with
  | l f sz xs A c u hc hz hf ha hr =>
    simp only [List.length_map] at hc ⊢
    by_cases hn : a = []
    · subst hn
      exact (Any.strings_Join_none Tryd.lays156 joinExtra A c b w).mono fun e w' ⟨he, hw⟩ => ⟨he, hw ▸ Below.refl _ _⟩
    · obtain ⟨g, o, rfl, hcell⟩ := ha (by simpa using hn)
      have hc2 : ∀ (j : Nat) x, a[j]? = some x → w.cell? ⟨g, o + j, none⟩ = some (.string x) := fun j x hx => by
        have hj : j < a.length := (List.getElem?_eq_some_iff.1 hx).1
        have h1 := (hcell j 0 (by simpa using hj) (by omega)).1
        have h2 := hr j (eS x) 0 (.p (.string x)) (by rw [List.getElem?_map, hx]; rfl) rfl
        rw [Nat.mul_one, Nat.add_zero] at h1
        generalize u j 0 = q at h1 h2
        cases h2 with
        | p v h => exact h1
      refine Any.strings_Join Tryd.lays156 joinExtra g o c a b w hc2 ?_ (by omega) hc h2
      obtain ⟨x, hx⟩ := List.exists_mem_of_ne_nil a hn
      obtain ⟨j, hj⟩ := List.getElem?_of_mem hx
      exact cell_lt (hc2 j x hj)
theorem primJoin_ok [Base] : CallOk Tryd.prog fun g ts => if g = 73 then primJoin ts else none :=
  callOk_one ⟨Tryd.f73, by kernel_rfl, by kernel_rfl, rfl⟩ fun ts rs ps e => by
    unfold primJoin at e
    split at e
    · rename_i f xs b
      simp only [Option.bind_eq_some_iff, Option.map_eq_some_iff] at e
      obtain ⟨a, ha, r, hr, e⟩ := e
      cases e
      obtain rfl := strsOf_eq ha
      unfold strings_Join.f at hr
      split at hr
      · rename_i hc
        obtain rfl := Option.some.inj hr
        intro X w us A hts hd hA hX hbs
        cases hts with
        | cons h1 h2 =>
          obtain ⟨rfl, rfl⟩ := h2.one
          cases h1 with
          | c h1 => cases h1 with
            | d hx => exact ok_plain (ts := [.d (.l f 1 (a.map eS)), .d (.p (.string b))]) (vs := [.string _]) (by simp [Value.oneCell']) (fun us => by rcases us with _ | ⟨x, _ | ⟨y, _⟩⟩ <;> rfl) (join_walk hx hc.1 hc.2)
      · cases hr
    · cases e
def prim : Prim := fun g => match g with
  | 103 => some primSplit
  | 70 => some primDec
  | 73 => some primJoin
  | _ => none
theorem prim_ok [Base] (l0 : Laid Base.w0) : PrimOk Tryd.prog prim := fun g F h => by
  unfold prim at h
  split at h
  · cases h; exact primSplit_ok
  · cases h; exact primDec_ok l0
  · cases h; exact primJoin_ok
  · cases h
end Go.Proofs.YtfkanjgfjejgiaaDoorE
