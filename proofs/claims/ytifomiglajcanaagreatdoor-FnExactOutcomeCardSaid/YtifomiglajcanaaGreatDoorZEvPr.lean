/- Functions of Go's library that the program reaches, by their contracts. -/
import Derived.Shelf.Strings.Split
import Derived.Shelf.Sort.Plain
import Derived.Shelf.Slices.In.SortNone2
import Derived.Shelf.Strconv.Itoa4
import Derived.Test.YtifomiglajcanaaGreatDoorZShelf
import Derived.Test.YtifomiglajcanaaGreatDoorZEvTb
import Derived.Test.YtifomiglajcanaaGreatDoorEvPrim
import Derived.WalkKit
import Derived.BigCall
import Derived.KernelRfl
set_option linter.unusedSimpArgs false
set_option linter.unusedVariables false
namespace Go.Proofs.YtifomiglajcanaaGreatDoorE
open Go.Ev Go.RowKit Go.Shelf Go.Lib Go.Sort
set_option linter.unusedVariables false

set_option maxHeartbeats 1000000 in
theorem split_any {P : Program} {ρ : Ren} (L : Lays.n146 P ρ) (hi9 : (P.info? (ρ.t 9)).map (fun i => (i.zero, i.size, i.bytes)) = some (some (.string ByteArray.empty), 1, 16)) (s sep : ByteArray) (w : World)
    (hs : s.size < 4294967281) (h1 : sep.size = 1) :
    Calls P (ρ.f 146) #[.string s, .string sep] w fun e w' =>
      e = .returned (.slice (some ⟨w.heap.size, 0, none⟩) (Lib.countB s sep + 1) (Lib.countB s sep + 1)) ∧ w' = w.alloc (.cells ((Lib.splitB sep 0 (Lib.countB s sep) s).map Value.string).toArray (ρ.t 9)) := by
  have hle := Lib.countB_le sep (by omega) s.size s (Nat.le_refl _)
  have hlen := Lib.splitB_all sep (by omega) 0 _ s rfl
  obtain ⟨b, hb⟩ := Lib.one_byte sep h1
  have c := Any.strings_genSplit_core { L with } hi9 s sep 0 (-1) (Lib.countB s sep + 1) w hs (by omega) (Nat.zero_le _)
    (fun x c _ => by
      subst hb
      refine (Any.strings_Index_one { L with } x b _).mono fun e w' ⟨he, hw⟩ => ⟨?_, hw⟩
      rw [he]
      show _ = Ending.returned (Value.int .i64 (Lib.index x.data.toList [b]))
      rw [Lib.index_one])
    (by
      subst hb
      refine (Any.strings_Count_one { L with } s b w).mono fun e w' ⟨he, hw⟩ => ⟨?_, hw⟩
      rw [he]
      show _ = Ending.returned (Value.int .i64 ((Lib.count s.data.toList [b] : Nat) : Int))
      rw [Lib.count_one]
      rfl)
    (by decide) (by decide) (by rw [if_pos (by decide)]; omega)
  rw [Nat.add_sub_cancel, hlen] at c
  have e2 : Lib.cellsOf (Lib.splitB sep 0 (Lib.countB s sep) s) (Lib.countB s sep + 1) = ((Lib.splitB sep 0 (Lib.countB s sep) s).map Value.string).toArray := by rw [← hlen]; exact Lib.cellsOf_full _
  rw [e2] at c
  have t3 := L.t3; have t9 := L.t9; have t31 := L.t31
  have a3 := L.a3; have a9 := L.a9; have a31 := L.a31
  have z3 := L.z3; have v3 := L.v3; have z9 := L.z9; have v9 := L.v9; have z31 := L.z31; have v31 := L.v31
  have e221 : ∀ args w, (callFunc (ρ.f 221) args).run P w = .ok (.enter (ρ.f 221) args) w := enters_of L.f221 (by kernel_rfl) rfl
  clear hb hle
  go_enter L.f146, Body.n146_ntmps ρ
  go_wp2_with (go_at_fn (ρ.f 221); refine c.mono ?_; rintro e w' ⟨rfl, hw⟩; rw [hw])
  go_ret
  exact ⟨rfl, rfl⟩


/-- The pieces of a text. -/
def strings_Split.f (a b : ByteArray) : Option (List ByteArray) := if a.size < 4294967281 ∧ b.size = 1 then some (Lib.splitB b 0 (Lib.countB a b) a) else none
def primSplit : List T → Option Res
  | [.d (.p (.string a)), .d (.p (.string b))] => (strings_Split.f a b).map fun r => ([.own true 1 (r.map eS)], [])
  | _ => none
theorem info_str : (Tryz.prog.info? 9).map (fun i => (i.zero, i.size, i.bytes)) = some (some (.string ByteArray.empty), 1, 16) := by kernel_rfl
theorem primSplit_ok [Base] : CallOk Tryz.prog fun g ts => if g = 49 then primSplit ts else none :=
  callOk_one ⟨Tryz.f49, by kernel_rfl, by kernel_rfl, rfl⟩ fun ts rs ps e => by
    unfold primSplit at e
    split at e
    · rename_i a b
      simp only [Option.map_eq_some_iff] at e
      obtain ⟨r, hr, e⟩ := e
      cases e
      unfold strings_Split.f at hr
      split at hr
      · rename_i hc
        obtain rfl := Option.some.inj hr
        intro X w us A hts hd hA hX hbs
        obtain ⟨rfl, rfl⟩ := hts.two
        have hlen := Lib.splitB_all b (by omega) 0 _ a rfl
        have hmax : Lib.countB a b + 1 ≤ maxLen := by
          have := Lib.countB_le b (by omega) a.size a (Nat.le_refl _)
          unfold maxLen
          omega
        exact ok_newS rfl _ _ hlen.symm 9 hmax hX (split_any Tryz.lays146 info_str a b w hc.1 hc.2)
      · cases hr
    · cases e
/-- What the library's tables and errors must hold. -/
structure Laid (w : World) : Prop where
  tab : Lib.TabIs Tryz.prog w "internal/strconv.uint64pow10" .u64 Lib.pow10Tab
theorem Laid.keep {w w' : World} (l : Laid w) (h : ∀ g, g < w.heap.size → w'.heap[g]? = w.heap[g]?) : Laid w' := by
  refine ⟨?_⟩
  · have := l.tab
    unfold Lib.TabIs at this ⊢
    rw [← this]
    simp only [World.var?] at this ⊢
    cases hg : Tryz.prog.globalNamed "internal/strconv.uint64pow10" with
    | none => rfl
    | some g =>
      simp only [hg, Option.bind_some] at this ⊢
      rw [h g]
      by_cases hs : g < w.heap.size
      · exact hs
      · rw [Array.getElem?_eq_none (by omega)] at this; cases this
theorem Fr.below {M : Nat → Nat → Prop} {w w' : World} (b : Below w.heap.size w w') : Fr M w w' :=
  ⟨b.os, b.tape, b.output, b.size, fun g hg _ => b.block g hg, fun g o hg _ => ⟨b.cell hg, b.frozen hg⟩⟩
theorem below_grow (w : World) (k : Nat) (os : Array Obj) : Below w.heap.size w (grow (w.drewN k) os) :=
  ⟨rfl, rfl, rfl, by show _ ≤ (w.heap ++ os).size; simp, fun i hi => by show (w.heap ++ os)[i]? = _; rw [Array.getElem?_append_left hi]⟩
/-- Cells as results. -/
theorem ok_plain {g : Nat} {ts : List T} {vs : List Value} (h1 : ∀ v ∈ vs, v.oneCell' = true) (hp : ∀ us, ptrsOf ts us = []) {X : Nat → Nat → Prop} {w : World} {us : Array Value}
    (c : Calls Tryz.prog g us w fun e w' => e = .returned (tupVal vs) ∧ Below w.heap.size w w') :
    Calls Tryz.prog g us w fun e w' => ∃ rvs A1 A2, e = .returned (tupVal rvs) ∧ TRs (Or2 X (cellsL (A1 ++ A2))) w' (vs.map fun v => .d (.p v)) rvs A1 ∧ TRs (Or2 X (cellsL (A1 ++ A2))) w' [] (ptrsOf ts us.toList) A2 ∧ Disj (A1 ++ A2) ∧
      (∀ g o, cellsL (A1 ++ A2) g o → ¬ X g o) ∧ Fr (cellsL []) w w' ∧ ∀ g o, g < w.heap.size → cellsL (A1 ++ A2) g o → cellsL [] g o := by
  refine c.mono ?_
  rintro e w' ⟨rfl, hb⟩
  refine ⟨vs, [], [], rfl, ?_, by rw [hp]; exact .nil, .nil, fun g o ⟨p, q, _⟩ => (by cases q), Fr.below hb, fun g o _ h => h⟩
  clear hb c
  induction vs with
  | nil => exact .nil
  | cons v vs ih => exact TRs.cons (A := []) (L := []) (.c (.d (.p v (h1 v (List.mem_cons_self ..))))) (ih fun x hx => h1 x (List.mem_cons_of_mem _ hx))
def impl_Dec.f (n : Int) : Option ByteArray := if -9223372036854775808 ≤ n ∧ n ≤ 9223372036854775807 then some ⟨(Lib.itoa n).toArray⟩ else none
def primDec : List T → Option Res
  | [.d (.p (.int .i64 n))] => (impl_Dec.f n).map fun r => ([.d (.p (.string r))], [])
  | _ => none
theorem dec_walk (n : Int) (h0 : -9223372036854775808 ≤ n) (h1 : n ≤ 9223372036854775807) (w : World) (l : Laid w) :
    Calls Tryz.prog 38 #[.int .i64 n] w fun e w' => e = .returned (.string ⟨(Lib.itoa n).toArray⟩) ∧ Below w.heap.size w w' := by
  go_enter Tryz.func38, Tryz.ntmps38
  go_wp2_with (go_at_call 64; refine (Any.strconv_Itoa Tryz.lays171 n h0 h1 _ l.tab).mono ?_; rintro e w' ⟨rfl, k, os, rfl⟩)
  go_ret
  exact ⟨rfl, below_grow _ _ _⟩
theorem primDec_ok [Base] (l0 : Laid Base.w0) : CallOk Tryz.prog fun g ts => if g = 38 then primDec ts else none :=
  callOk_one ⟨Tryz.f38, by kernel_rfl, by kernel_rfl, rfl⟩ fun ts rs ps e => by
    unfold primDec at e
    split at e
    · rename_i n
      simp only [Option.map_eq_some_iff] at e
      obtain ⟨r, hr, e⟩ := e
      cases e
      unfold impl_Dec.f at hr
      split at hr
      · rename_i hc
        obtain rfl := Option.some.inj hr
        intro X w us A hts hd hA hX hbs
        obtain ⟨rfl, rfl⟩ := hts.one
        exact ok_plain (ts := [.d (.p (.int .i64 n))]) (vs := [.string _]) (by simp [Value.oneCell']) (fun us => by cases us <;> rfl) (dec_walk n hc.1 hc.2 w (l0.keep hbs.2.1))
      · cases hr
    · cases e
def strsOf : List (List D) → Option (List ByteArray)
  | [] => some []
  | [.p (.string s)] :: r => (strsOf r).map (s :: ·)
  | _ => none
theorem strsOf_map : ∀ l : List ByteArray, strsOf (l.map eS) = some l
  | [] => rfl
  | s :: l => by simp [strsOf, eS, strsOf_map l]
theorem strsOf_eq : ∀ {xs : List (List D)} {l : List ByteArray}, strsOf xs = some l → xs = l.map eS
  | [], l, h => by cases h; rfl
  | x :: xs, l, h => by
    unfold strsOf at h
    split at h
    · rename_i e; cases e
    · rename_i s r e
      cases e
      simp only [Option.map_eq_some_iff] at h
      obtain ⟨l', h, rfl⟩ := h
      rw [strsOf_eq h]; rfl
    · cases h
/-! ### sort.Strings: in place -/
theorem enc_back (s : ByteArray) : encStr s.data.toList = Value.string s := rfl
theorem put_block (w : World) (n : Nat) (g : Nat) (d : Array (List UInt8)) (os : Array Obj) {cur : Array Value} {e : TypeId} {fr : Nat × Nat} (hg : w.heap[g]? = some (.cells cur e fr)) :
    (grow (putRow encStr (Sort.ahead w n) g 0 d) os).heap[g]? = some (.cells (putCells encStr 0 d cur) e fr) := by
  have hlt : g < w.heap.size := (Array.getElem?_eq_some_iff.1 hg).1
  unfold grow putRow mapBlock Sort.ahead
  simp only
  rw [Array.getElem?_append_left (by simpa using hlt), Array.getElem?_modify, if_pos rfl, hg]
  rfl
theorem put_other (w : World) (n : Nat) (g : Nat) (d : Array (List UInt8)) (os : Array Obj) (k : Nat) (hk : k < w.heap.size) (hne : k ≠ g) :
    (grow (putRow encStr (Sort.ahead w n) g 0 d) os).heap[k]? = w.heap[k]? := by
  unfold grow putRow mapBlock Sort.ahead
  simp only
  rw [Array.getElem?_append_left (by simpa using hk), Array.getElem?_modify, if_neg (fun e => hne e.symm)]
theorem put_size (w : World) (n : Nat) (g : Nat) (d : Array (List UInt8)) (os : Array Obj) : w.heap.size ≤ (grow (putRow encStr (Sort.ahead w n) g 0 d) os).heap.size := by
  unfold grow putRow mapBlock Sort.ahead
  simp
theorem put_take (d : Array (List UInt8)) (cur : Array Value) (h : d.size ≤ cur.size) : (putCells encStr 0 d cur).toList.take d.size = d.toList.map encStr := by
  apply List.ext_getElem?
  intro j
  by_cases hj : j < d.size
  · have hj' : j < cur.size := by omega
    simp [putCells, hj, hj']
  · simp [List.getElem?_take, hj]
/-- Texts as the library sorts them. -/
def sortS (l : List ByteArray) : List ByteArray := ((l.map fun s => s.data.toList).mergeSort fun x y => decide (x ≤ y)).map fun x => (⟨x.toArray⟩ : ByteArray)
theorem sortS_len (l : List ByteArray) : (sortS l).length = l.length := by simp [sortS, List.length_mergeSort]
def sort_Strings.f (a : List ByteArray) : Option (List ByteArray) := if a.length < 4611686018427387904 then some (sortS a) else none
def primSort : List T → Option Res
  | [.lend f 1 xs] => (strsOf xs).bind fun a => (sort_Strings.f a).map fun r => ([], [.own f 1 (r.map eS)])
  | _ => none
theorem row_strs {B : Nat → Nat → Prop} {w : World} {a : List ByteArray} {us : List Value} (hl : us.length = a.length) (h : ∀ (i : Nat) x (j : Nat) y, (a.map eS)[i]? = some x → x[j]? = some y → ∃ u, us[i * 1 + j]? = some u ∧ RO B w y u) : us = a.map Value.string := by
  apply List.ext_getElem?
  intro i
  by_cases hi : i < a.length
  · obtain ⟨u, hu, r⟩ := h i (eS a[i]) 0 (.p (.string a[i])) (by simp [hi]) rfl
    cases r with
    | p v _ => rw [Nat.mul_one, Nat.add_zero] at hu; rw [hu]; simp [hi]
  · rw [List.getElem?_eq_none (by omega), List.getElem?_eq_none (by simp; omega)]
theorem strs_row {B : Nat → Nat → Prop} {w : World} (a : List ByteArray) : ∀ (i : Nat) x (j : Nat) y, (a.map eS)[i]? = some x → x[j]? = some y → ∃ u, (a.map Value.string)[i * 1 + j]? = some u ∧ RO B w y u := by
  intro i x j y hx hy
  rw [List.getElem?_map] at hx
  cases hs : a[i]? with
  | none => rw [hs] at hx; cases hx
  | some s =>
    rw [hs] at hx; simp at hx; subst hx
    cases j with
    | zero => simp [eS] at hy; subst hy; exact ⟨.string s, by simp [hs], .p _ rfl⟩
    | succ j => simp [eS] at hy
theorem primSort_ok [Base] : CallOk Tryz.prog fun g ts => if g = 119 then primSort ts else none :=
  callOk_one ⟨Tryz.f119, by kernel_rfl, by kernel_rfl, rfl⟩ fun ts rs ps e => by
    unfold primSort at e
    split at e
    case h_2 => cases e
    rename_i f xs
    simp only [Option.bind_eq_some_iff, Option.map_eq_some_iff] at e
    obtain ⟨a, ha, r, hr, e⟩ := e
    cases e
    obtain rfl := strsOf_eq ha
    unfold sort_Strings.f at hr
    split at hr
    case isFalse => cases hr
    rename_i hc
    obtain rfl := Option.some.inj hr
    intro X w us A hts hd hA hX hbs
    cases hts with
    | cons h1 h2 =>
      cases h2
      cases h1 with
      | c h1 => cases h1
      | lend h1 =>
        cases h1 with
        | @own _ _ _ u ho h1 =>
          obtain ⟨us, ⟨hlen, hrow⟩, hz, hfl, hro⟩ := ho
          rw [List.length_map] at hrow
          have hus : us = a.map Value.string := row_strs (by rw [hlen, List.length_map, Nat.mul_one]) hro
          have hz2 : ∀ x ∈ (sortS a).map eS, x.length = 1 := by intro x hx; obtain ⟨s, _, rfl⟩ := List.mem_map.1 hx; rfl
          have hfl2 : f = true → ∀ x ∈ (sortS a).map eS, x.all D.isP = true := by intro _ x hx; obtain ⟨s, _, rfl⟩ := List.mem_map.1 hx; rfl
          rcases hrow with ⟨rfl, h0⟩ | ⟨g, cap, cur, ty, rfl, k1, k2, k3, k4, k5⟩
          · have hl : a = [] := List.eq_nil_of_length_eq_zero h0
            subst hl
            refine (Any.sort_Strings_none Tryz.lays192 none 0 w).mono ?_
            rintro e w' ⟨rfl, rfl⟩
            have e0 : sortS [] = [] := by simp [sortS]
            rw [e0] at hz2 hfl2 ⊢
            refine ⟨[], [], [(.row true f 1 (([] : List ByteArray).map eS), .slice none 0 0)], rfl, .nil, .cons (.c (.own ⟨[], ⟨rfl, .inl ⟨rfl, rfl⟩⟩, hz2, hfl2, fun i x j y hx => by simp at hx⟩ rfl)) .nil, List.pairwise_singleton _ _, fun g o => hA g o, Fr.refl _ _, fun g o _ h => h⟩
          · have hlt : g < w.heap.size := (Array.getElem?_eq_some_iff.1 k1).1
            have hsz : (a.map fun s => s.data.toList).length = a.length := List.length_map _
            have hcur : a.length ≤ cur.size := by rw [k4]; omega
            have hH : Holds encStr w g 0 (a.map fun s => s.data.toList).toArray := by
              intro j hj
              have hj' : j < a.length := by simpa using hj
              have hx : cur.toList[j]? = some (Value.string a[j]) := by
                have e : (cur.toList.take (a.length * 1))[j]? = cur.toList[j]? := by rw [List.getElem?_take, if_pos (by omega)]
                rw [← e]
                rw [k5, hus]
                simp [hj']
              have hx' : cur[j]? = some (Value.string a[j]) := by simpa using hx
              refine ⟨?_, ?_⟩
              · simp only [World.cell?, k1, Nat.zero_add]
                rw [hx']
                simp [hj', enc_back]
              · simp [World.frozen?, k1]
            have c := Any.sort_Strings Tryz.lays192 g 0 cap (a.map fun s => s.data.toList) w hH hlt (by rw [hsz]; exact hc)
            rw [hsz] at c
            refine c.mono ?_
            rintro e w' ⟨rfl, n, os, rfl⟩
            have hd2 : ((a.map fun s => s.data.toList).mergeSort fun x y => decide (x ≤ y)).toArray.size = a.length := by simp [List.length_mergeSort]
            have hcells : ∀ o, cellsL [((Ob.row true f 1 (a.map eS)), Value.slice (some ⟨g, 0, none⟩) a.length cap)] g o := fun o => ⟨_, List.mem_singleton.2 rfl, rfl⟩
            refine ⟨[], [], [(.row true f 1 ((sortS a).map eS), .slice (some ⟨g, 0, none⟩) a.length cap)], rfl, .nil, .cons (.c (.own ⟨(sortS a).map Value.string, ⟨by simp, .inr ⟨g, cap, _, ty, by rw [List.length_map, sortS_len], put_block w n g _ os k1, by rw [List.length_map, sortS_len]; exact k2, k3, by simp [putCells, k4], ?_⟩⟩, hz2, hfl2, strs_row _⟩ rfl)) .nil, List.pairwise_singleton _ _, ?_, ?_, ?_⟩
            · rw [List.length_map, sortS_len, Nat.mul_one]
              have := put_take ((a.map fun s => s.data.toList).mergeSort fun x y => decide (x ≤ y)).toArray cur (by rw [hd2]; exact hcur)
              rw [hd2] at this
              rw [this]
              simp [sortS]
              done
            · rintro g' o ⟨p, hp, x⟩
              simp at hp; subst hp
              have hg' : g = g' := x
              subst hg'
              exact hA g o (by simpa using hcells o)
            · refine ⟨rfl, rfl, rfl, put_size w n g _ os, fun k hk hn => put_other w n g _ os k hk fun e => hn 0 (by subst e; simpa using hcells 0), fun k o hk hn => ?_⟩
              have := put_other w n g ((a.map fun s => s.data.toList).mergeSort fun x y => decide (x ≤ y)).toArray os k hk fun e => hn (by subst e; simpa using hcells o)
              exact ⟨by simp only [World.cell?, this], by simp only [World.frozen?, this]⟩
            · rintro g' o _ ⟨p, hp, x⟩
              simp at hp; subst hp
              have hg' : g = g' := x
              subst hg'
              simpa using hcells o
/-! ### spec.l11Clo, a function that keeps all cells but one -/
def cloTs (u : Nat → T) (xs : List (List D)) : List T := [u 0, u 1, u 2, u 3, u 4, u 5, u 6, .own true 2 xs, u 8, u 9, u 10, u 11]
def cloN (a b : Int) : List (List D) := [[.p (.int .i64 a), .p (.int .i64 b)]]
def md0 : Md := fun _ => ([], [])
def prim0 : Prim := fun _ => none
noncomputable abbrev E0 := Go.Ev.Ev Tryz.prog tb md0 prim0
theorem wSeqR {P : Program} {tb : Tb} {md : Md} {prim : Prim} {id : Nat} {ops : Array Oper} {b : Code} {S S' : St} {Q : Out → St → Prop} (e : evOps P tb md (Go.Ev.Ev P tb md prim) ops ops.toList S = some S') (h : W P tb md prim b (sq (.region id ops false) S') Q) : W P tb md prim (.seq (.region id ops false) b) S Q := by
  rw [W_seq, W_region]; exact ⟨S', e, h⟩
theorem opsM {P : Program} {tb : Tb} {md : Md} {call : CallF} {ops : Array Oper} {o : Oper} {os : List Oper} {S S1 S' : St} (h1 : evOp P tb md call ops o S = some S1) (h2 : evOps P tb md call ops os S1 = some S') : evOps P tb md call ops (o :: os) S = some S' := by
  simp only [evOps, h1, Option.bind_some]; exact h2
theorem appM {tb : Tb} {h : Hp} {e d s k g s2 k2 g2 sz sz' : Nat} {f f' o2 : Bool} {xs ys : List (List D)} {ie : TI} (hi : tb e = some ie) (h1 : h.get s k g = some (.row true f sz xs)) (h2 : h.get s2 k2 g2 = some (.row o2 f' sz' ys))
    (c : sz = ie.sz ∧ sz' = ie.sz ∧ 0 < ie.sz ∧ 0 < ie.by_ ∧ (xs.length + ys.length) * ie.by_ ≤ 140737488355328 ∧ (V.own s2 k2 g2).notTok s k) :
    appendV tb h e d (.own s k g) (.own s2 k2 g2) = some (.own d 0 (((h.mod s k none) d 0).1 + 1), (h.mod s k none).new d 0 (.row true (f && f') sz (xs ++ ys))) := by
  have r : rowOf h (.own s2 k2 g2) = some (f', sz', ys) := by simp only [rowOf, h2]
  simp only [appendV, hi, V.fix, r, h1]
  rw [if_pos c]
theorem opApp {P : Program} {tb : Tb} {md : Md} {call : CallF} {ops : Array Oper} {dst ty t n b e : Nat} {z : List V} {x y : Operand} {pos : String} {after : Array Edge} {S : St} {s k g s2 k2 g2 sz sz' : Nat} {f f' o2 : Bool} {xs ys : List (List D)} {ie : TI}
    (ht : tb t = some ⟨n, b, .sl e, z⟩) (hx : S.ev x = .own s k g) (hy : S.ev y = .own s2 k2 g2) (hi : tb e = some ie) (h1 : S.h.get s k g = some (.row true f sz xs)) (h2 : S.h.get s2 k2 g2 = some (.row o2 f' sz' ys))
    (c : sz = ie.sz ∧ sz' = ie.sz ∧ 0 < ie.sz ∧ 0 < ie.by_ ∧ (xs.length + ys.length) * ie.by_ ≤ 140737488355328 ∧ (V.own s2 k2 g2).notTok s k) :
    evOp P tb md call ops ⟨some dst, .call ⟨.builtin .append, #[x, y], #[t, t]⟩, ty, pos, after, none⟩ S = some (S.put (some dst) (.own dst 0 (((S.h.mod s k none) dst 0).1 + 1)) ((S.h.mod s k none).new dst 0 (.row true (f && f') sz (xs ++ ys)))) := by
  simp only [evOp, wantedV, Option.bind_some, if_true, exec, ht, hx, hy, Option.getD_some]
  rw [appM hi h1 h2 c]; rfl
set_option maxRecDepth 100000 in
theorem clo_ev (ρ : Nat → Value) (xs : List (List D)) (a b : Int) (hc : (xs.length + 1) * 16 ≤ 140737488355328) :
    E0 54 [.ptr (cloTs (fun i => .d (.p (ρ i))) xs), .d (.p (.int .i64 a)), .d (.p (.int .i64 b))] =
      some ([.agg [.d (.p (.int .i64 1)), .d (.p (.int .i64 (w64 (((xs ++ cloN a b).length : Int) - 1))))]], [.ptr (cloTs (fun i => .d (.p (ρ i))) (xs ++ cloN a b))]) := by
  refine Ev_intro (fn := Tryz.f54) rfl (by kernel_rfl) (c := _) rfl ⟨rfl, by simp⟩ rfl ?_
  refine wSeqR (opsM rfl rfl) ?_
  refine wSeqR (opsM rfl <| opsM rfl <| opsM rfl <| opsM rfl <| opsM rfl <| opsM rfl <| opsM rfl <| opsM rfl <| opsM rfl <| opsM rfl <| opsM (opApp rfl rfl rfl rfl rfl rfl ⟨rfl, rfl, by decide, by decide, hc, rfl⟩) <| opsM rfl <| opsM rfl <| opsM rfl <| opsM rfl rfl) ?_
  refine wSeqR (opsM rfl <| opsM rfl <| opsM rfl <| opsM rfl <| opsM rfl <| opsM rfl <| opsM rfl <| opsM rfl <| opsM rfl rfl) ?_
  rw [W_ret]
  rfl
def cloK : List Nat := [0, 1, 2, 3, 4, 5, 6, 8, 9, 10, 11]
def tokT : T := .d (.p tokV)
def primClo : List T → Option Res
  | [T.ptr us, .d (.p (.int .i64 a)), .d (.p (.int .i64 b))] => match (us[7]? : Option T) with
    | some (T.own true 2 xs) => if us.length = 12 ∧ toksOk cloK 0 us = true ∧ (xs.length + 1) * 16 ≤ 140737488355328 then
        some ([.agg [.d (.p (.int .i64 1)), .d (.p (.int .i64 (w64 (((xs ++ cloN a b).length : Int) - 1))))]], [.ptr (cloTs (fun _ => tokT) (xs ++ cloN a b))]) else none
    | _ => none
  | _ => none
theorem tok_eq {t : T} (h : t.isTok = true) : t = tokT := by
  unfold T.isTok at h
  split at h
  · rfl
  · cases h
theorem clo_us {us : List T} {xs : List (List D)} (hl : us.length = 12) (hk : toksOk cloK 0 us = true) (h7 : us[7]? = some (.own true 2 xs)) : us = cloTs (fun _ => tokT) xs := by
  obtain ⟨t0, t1, t2, t3, t4, t5, t6, t7, t8, t9, t10, t11, rfl⟩ : ∃ t0 t1 t2 t3 t4 t5 t6 t7 t8 t9 t10 t11, us = [t0, t1, t2, t3, t4, t5, t6, t7, t8, t9, t10, t11] := by
    rcases us with _ | ⟨t0, _ | ⟨t1, _ | ⟨t2, _ | ⟨t3, _ | ⟨t4, _ | ⟨t5, _ | ⟨t6, _ | ⟨t7, _ | ⟨t8, _ | ⟨t9, _ | ⟨t10, _ | ⟨t11, _ | ⟨t12, us⟩⟩⟩⟩⟩⟩⟩⟩⟩⟩⟩⟩⟩ <;> simp at hl
    exact ⟨_, _, _, _, _, _, _, _, _, _, _, _, rfl⟩
  simp [toksOk, cloK] at hk
  obtain ⟨h0, h1, h2, h3, h4, h5, h6, h8, h9, h10, h11⟩ := hk
  simp at h7
  subst h7
  rw [tok_eq h0, tok_eq h1, tok_eq h2, tok_eq h3, tok_eq h4, tok_eq h5, tok_eq h6, tok_eq h8, tok_eq h9, tok_eq h10, tok_eq h11]
  rfl
theorem names_okP : NamesOk Tryz.prog := ⟨of_decide_eq_true (by kernel_rfl), fun f fn h => by
  have hall : (Tryz.prog.funcs.all fun fn => !(fn.name == "runtime.NumGoroutine")) = true := by kernel_rfl
  have := Array.all_eq_true_iff_forall_mem.1 hall fn (Array.mem_of_getElem? h)
  simpa using this⟩
theorem primClo_ok [Base] : CallOk Tryz.prog fun g ts => if g = 1000054 then primClo ts else none := by
  intro g ts rs ps e
  change (if g = 1000054 then primClo ts else none) = some (rs, ps) at e
  split at e
  case isFalse => cases e
  rename_i hg
  subst hg
  refine ⟨fun h => absurd (show 1000000 ≤ 1000054 by decide) h, fun _ => ?_⟩
  unfold primClo at e
  split at e
  case h_2 => cases e
  rename_i us a b
  split at e
  case h_2 => cases e
  rename_i xs h7
  split at e
  case isFalse => cases e
  rename_i c
  cases e
  obtain rfl := clo_us c.1 c.2.1 h7
  have key : ∀ ρ : Nat → Value, Go.Ev.Enters Tryz.prog 54 ∧ Ok2 Tryz.prog 54 (putA ρ [.ptr (cloTs (fun _ => tokT) xs), .d (.p (.int .i64 a)), .d (.p (.int .i64 b))]) [.agg [.d (.p (.int .i64 1)), .d (.p (.int .i64 (w64 (((xs ++ cloN a b).length : Int) - 1))))]] (putA ρ [.ptr (cloTs (fun _ => tokT) (xs ++ cloN a b))]) := fun ρ =>
    ((Ev_ok (md := md0) (prim := prim0) tb_ok names_okP (by kernel_rfl) (fun g F h => by cases h)) 54 _ _ _ (clo_ev ρ xs a b c.2.2)).1 (fun h => absurd (show 1000000 ≤ 54 from h) (by decide))
  exact ⟨(key fun _ => tokV).1, fun ρ _ => (key ρ).2⟩
def prim : Prim := fun g => match g with
  | 49 => some primSplit
  | 38 => some primDec
  | 119 => some primSort
  | 1000054 => some primClo
  | _ => none
theorem prim_ok [Base] (l0 : Laid Base.w0) : PrimOk Tryz.prog prim := fun g F h => by
  unfold prim at h
  split at h
  · cases h; exact primSplit_ok
  · cases h; exact primDec_ok l0
  · cases h; exact primSort_ok
  · cases h; exact primClo_ok
  · cases h
end Go.Proofs.YtifomiglajcanaaGreatDoorE
