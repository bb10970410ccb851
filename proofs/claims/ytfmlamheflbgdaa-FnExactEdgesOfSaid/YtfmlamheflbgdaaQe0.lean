/- For each function of the Go program that is named here: its Lean function, and that Go comes to just its answer. Written by a program of the session out of the translation. -/
import Derived.Test.YtfmlamheflbgdaaProg
import Derived.Below
import Derived.Deep.Draws
import Derived.Deep.AppendLies
import Derived.Maps.AppendAt
import Derived.OwnWalk
import Derived.Laws.BytesArg
import Derived.Laws.MakeOwn
import Derived.Laws.OwnMore
import Derived.Deep.OwnRows
import Derived.Tactics
import Derived.Lib.ConvBytes
import Derived.Laws.Slices
import Derived.WalkKit
import Derived.KernelRfl
import Derived.RowKit3
import Derived.Deep.LoopGhost
import Derived.Deep.QuietTactic
import Derived.BigQuiet
import Derived.WideLaws
import Derived.Deep.DeepCutAuto
import Derived.Deep.CutBlock
import Derived.Deep.RegionHeld3
import Derived.Laws.Rows
import Derived.Lib.AppendStr
import Derived.ArgAppend
import Derived.Laws.IdiomCopy
import Derived.OrdersHeld
import Derived.Laws.BitsLemmas
import Derived.RowKit
import Derived.Test.YtfmlamheflbgdaaVae0
import Derived.Shelf.SlSortFuncK.WholeK
import Derived.Ground.GgsProg
import Derived.Sort.AssemblyPlain
import Derived.Lib.BitFns
import Derived.Shelf.GgSortFunc.RowK
import Derived.Shelf.GgSortFunc.Tiny
section
namespace Go.Proofs.Ytfmlamheflbgdaa.PAll
open Go.RowKit Go.Proofs.YtfmlamheflbgdaaW.PrintWords Go.Proofs.YtfmlamheflbgdaaW.PrintLast Go.Proofs.YtfmlamheflbgdaaW.PrintMore
attribute [local go_sem] max2_int min2_int max_two min_two max_three min_three max_four min_four
set_option linter.unusedVariables false
set_option linter.unusedSimpArgs false
def errW : Option Int → Value
  | none => .nilIface
  | some c => .iface 0 (.int .i64 c)
theorem errW_none : errW none = .nilIface := rfl
theorem errW_some (c : Int) : errW (some c) = .iface 0 (.int .i64 c) := rfl
theorem isEmpty_ne (l : List UInt8) : l.isEmpty = !(l != []) := by cases l <;> rfl
theorem cut_to_max {P : Program} (t e : TypeId) (kh km : IntKind) {i : TypeInfo} (ht : P.underlying t = some (.slice e)) (hi : P.info? e = some i) (A : Option Addr) (n c : Nat) (j m : Int) (h0 : 0 ≤ j) (hjm : j ≤ m) (hm : m ≤ n) (hc : n ≤ c) :
    ∀ W : World, (Instr.slice t (.slice A n c) none (some (.int kh j)) (some (.int km m))).run P W = .ok (.slice A j.toNat m.toNat) W := by
  intro W
  have hel : P.elem t = e := by simp [Program.elem, ht]
  have hu : P.underlying t = some (.slice (P.elem t)) := by rw [hel]; exact ht
  have ha : (A.map fun x => x.add 0) = A := by cases A <;> simp [Addr.add]
  rw [run_slice_hm W t A n c hu kh km j m h0 hjm (by omega), hel]
  simp [sizeOf, typeInfo, hi, sliced, Result.andThen, ha]
theorem info39 : (Try.prog.info? 39).map (fun i => (i.zero, i.size, i.bytes)) = some (some (.agg #[(.int .i64 0), (.int .i64 0), (.int .i64 0)]), 3, 24) := by kernel_rfl
theorem info42 : (Try.prog.info? 42).map (fun i => (i.zero, i.size, i.bytes)) = some (some (.agg #[(.int .i64 0), (.int .i64 0)]), 2, 16) := by kernel_rfl
structure S49 where
  f0 : Int
  f1 : Int
  f2 : Int
def z49 : S49 := ⟨(0 : Int), (0 : Int), (0 : Int)⟩
def k49 : Kd S49 := Kd.iso (Kd.pair (Kd.int .i64) (Kd.pair (Kd.int .i64) (Kd.int .i64))) (fun x : S49 => (x.f0, x.f1, x.f2))
theorem k49_open {w : World} {x : S49} {cs : List Value} (h : k49.K w x cs) : cs = [.int .i64 x.f0, .int .i64 x.f1, .int .i64 x.f2] := by
  obtain ⟨_, _, rfl, rfl, ⟨_, _, rfl, rfl, rfl⟩⟩ := h
  exact rfl
theorem k49_openM {w : World} {base : Nat} {ok : Nat → Prop} {x : S49} {cs : List Value} (h : k49.M w base ok x cs) : cs = [.int .i64 x.f0, .int .i64 x.f1, .int .i64 x.f2] := by
  obtain ⟨_, _, rfl, rfl, ⟨_, _, rfl, rfl, rfl⟩⟩ := h
  exact rfl
theorem k49_mk (w : World) (x : S49)  : k49.K w x [.int .i64 x.f0, .int .i64 x.f1, .int .i64 x.f2] := ⟨[.int .i64 x.f0], [.int .i64 x.f1, .int .i64 x.f2], rfl, rfl, ⟨[.int .i64 x.f1], [.int .i64 x.f2], rfl, rfl, rfl⟩⟩
theorem k49_mkM (w : World) (base : Nat) (ok : Nat → Prop) (x : S49)  : k49.M w base ok x [.int .i64 x.f0, .int .i64 x.f1, .int .i64 x.f2] := ⟨[.int .i64 x.f0], [.int .i64 x.f1, .int .i64 x.f2], rfl, rfl, ⟨[.int .i64 x.f1], [.int .i64 x.f2], rfl, rfl, rfl⟩⟩
def rd_T49 (xs : List S49) (i : Int) : S49 := xs.getD i.toNat z49
theorem at_T49 {w : World} {A : Option Addr} {n : Nat} {xs : List S49} (h : Kd.C k49 w A n xs) (i : Int) (h0 : 0 ≤ i) (h1 : i < n) : ∃ ad , A = some ad ∧ w.cell? (ad.add (i.toNat * 3)) = some (.int .i64 (rd_T49 xs i).f0) ∧ w.cell? ⟨(ad.add (i.toNat * 3)).block, (ad.add (i.toNat * 3)).off + 1, none⟩ = some (.int .i64 (rd_T49 xs i).f1) ∧ w.cell? ⟨(ad.add (i.toNat * 3)).block, (ad.add (i.toNat * 3)).off + 2, none⟩ = some (.int .i64 (rd_T49 xs i).f2) := by
  obtain ⟨ad, c, e, _, hK, hc0⟩ := Kd.C_get h z49 i h0 h1
  have hc : ∀ j u, c[j]? = some u → w.cell? (ad.add (i.toNat * 3 + j)) = some u := hc0
  obtain rfl := k49_open hK
  exact ⟨ad, e, hc 0 _ rfl, by rw [← add_field _ _ 1 (by omega)]; exact hc 1 _ rfl, by rw [← add_field _ _ 2 (by omega)]; exact hc 2 _ rfl⟩
structure S42 where
  f0 : Int
  f1 : Int
def z42 : S42 := ⟨(0 : Int), (0 : Int)⟩
def k42 : Kd S42 := Kd.iso (Kd.pair (Kd.int .i64) (Kd.int .i64)) (fun x : S42 => (x.f0, x.f1))
theorem k42_open {w : World} {x : S42} {cs : List Value} (h : k42.K w x cs) : cs = [.int .i64 x.f0, .int .i64 x.f1] := by
  obtain ⟨_, _, rfl, rfl, rfl⟩ := h
  exact rfl
theorem k42_openM {w : World} {base : Nat} {ok : Nat → Prop} {x : S42} {cs : List Value} (h : k42.M w base ok x cs) : cs = [.int .i64 x.f0, .int .i64 x.f1] := by
  obtain ⟨_, _, rfl, rfl, rfl⟩ := h
  exact rfl
theorem k42_mk (w : World) (x : S42)  : k42.K w x [.int .i64 x.f0, .int .i64 x.f1] := ⟨[.int .i64 x.f0], [.int .i64 x.f1], rfl, rfl, rfl⟩
theorem k42_mkM (w : World) (base : Nat) (ok : Nat → Prop) (x : S42)  : k42.M w base ok x [.int .i64 x.f0, .int .i64 x.f1] := ⟨[.int .i64 x.f0], [.int .i64 x.f1], rfl, rfl, rfl⟩
def rd_T42 (xs : List S42) (i : Int) : S42 := xs.getD i.toNat z42
theorem at_T42 {w : World} {A : Option Addr} {n : Nat} {xs : List S42} (h : Kd.C k42 w A n xs) (i : Int) (h0 : 0 ≤ i) (h1 : i < n) : ∃ ad , A = some ad ∧ w.cell? (ad.add (i.toNat * 2)) = some (.int .i64 (rd_T42 xs i).f0) ∧ w.cell? ⟨(ad.add (i.toNat * 2)).block, (ad.add (i.toNat * 2)).off + 1, none⟩ = some (.int .i64 (rd_T42 xs i).f1) := by
  obtain ⟨ad, c, e, _, hK, hc0⟩ := Kd.C_get h z42 i h0 h1
  have hc : ∀ j u, c[j]? = some u → w.cell? (ad.add (i.toNat * 2 + j)) = some u := hc0
  obtain rfl := k42_open hK
  exact ⟨ad, e, hc 0 _ rfl, by rw [← add_field _ _ 1 (by omega)]; exact hc 1 _ rfl⟩
structure S39 where
  f0 : Int
  f1 : Int
  f2 : Int
def z39 : S39 := ⟨(0 : Int), (0 : Int), (0 : Int)⟩
def k39 : Kd S39 := Kd.iso (Kd.pair (Kd.int .i64) (Kd.pair (Kd.int .i64) (Kd.int .i64))) (fun x : S39 => (x.f0, x.f1, x.f2))
theorem k39_open {w : World} {x : S39} {cs : List Value} (h : k39.K w x cs) : cs = [.int .i64 x.f0, .int .i64 x.f1, .int .i64 x.f2] := by
  obtain ⟨_, _, rfl, rfl, ⟨_, _, rfl, rfl, rfl⟩⟩ := h
  exact rfl
theorem k39_openM {w : World} {base : Nat} {ok : Nat → Prop} {x : S39} {cs : List Value} (h : k39.M w base ok x cs) : cs = [.int .i64 x.f0, .int .i64 x.f1, .int .i64 x.f2] := by
  obtain ⟨_, _, rfl, rfl, ⟨_, _, rfl, rfl, rfl⟩⟩ := h
  exact rfl
theorem k39_mk (w : World) (x : S39)  : k39.K w x [.int .i64 x.f0, .int .i64 x.f1, .int .i64 x.f2] := ⟨[.int .i64 x.f0], [.int .i64 x.f1, .int .i64 x.f2], rfl, rfl, ⟨[.int .i64 x.f1], [.int .i64 x.f2], rfl, rfl, rfl⟩⟩
theorem k39_mkM (w : World) (base : Nat) (ok : Nat → Prop) (x : S39)  : k39.M w base ok x [.int .i64 x.f0, .int .i64 x.f1, .int .i64 x.f2] := ⟨[.int .i64 x.f0], [.int .i64 x.f1, .int .i64 x.f2], rfl, rfl, ⟨[.int .i64 x.f1], [.int .i64 x.f2], rfl, rfl, rfl⟩⟩
def rd_T39 (xs : List S39) (i : Int) : S39 := xs.getD i.toNat z39
theorem at_T39 {w : World} {A : Option Addr} {n : Nat} {xs : List S39} (h : Kd.C k39 w A n xs) (i : Int) (h0 : 0 ≤ i) (h1 : i < n) : ∃ ad , A = some ad ∧ w.cell? (ad.add (i.toNat * 3)) = some (.int .i64 (rd_T39 xs i).f0) ∧ w.cell? ⟨(ad.add (i.toNat * 3)).block, (ad.add (i.toNat * 3)).off + 1, none⟩ = some (.int .i64 (rd_T39 xs i).f1) ∧ w.cell? ⟨(ad.add (i.toNat * 3)).block, (ad.add (i.toNat * 3)).off + 2, none⟩ = some (.int .i64 (rd_T39 xs i).f2) := by
  obtain ⟨ad, c, e, _, hK, hc0⟩ := Kd.C_get h z39 i h0 h1
  have hc : ∀ j u, c[j]? = some u → w.cell? (ad.add (i.toNat * 3 + j)) = some u := hc0
  obtain rfl := k39_open hK
  exact ⟨ad, e, hc 0 _ rfl, by rw [← add_field _ _ 1 (by omega)]; exact hc 1 _ rfl, by rw [← add_field _ _ 2 (by omega)]; exact hc 2 _ rfl⟩
def rd_L4 (xs : List (List S42)) (i : Int) : (List S42) := xs.getD i.toNat ([] : List S42)
theorem at_L4 {w : World} {A : Option Addr} {n : Nat} {xs : List (List S42)} (h : Kd.C (Kd.slice 42 k42) w A n xs) (i : Int) (h0 : 0 ≤ i) (h1 : i < n) : ∃ ad A0 c0, A = some ad ∧ w.cell? (ad.add i.toNat) = some (.slice A0 (rd_L4 xs i).length c0) ∧ (rd_L4 xs i).length ≤ c0 ∧ k42.C w A0 (rd_L4 xs i).length (rd_L4 xs i) := by
  obtain ⟨ad, c, e, _, hK, hc0⟩ := Kd.C_get h ([] : List S42) i h0 h1
  have hc : ∀ j u, c[j]? = some u → w.cell? (ad.add (i.toNat * 1 + j)) = some u := hc0
  obtain ⟨A0, c0, rfl, l0, g0⟩ := hK
  exact ⟨ad, A0, c0, e, by have hq := hc 0 _ rfl; rwa [Nat.mul_one, Nat.add_zero] at hq, l0, g0⟩
end Go.Proofs.Ytfmlamheflbgdaa.PAll
end
section
namespace Go.Proofs.Ytfmlamheflbgdaa.PAll
open Go.RowKit Go.Proofs.YtfmlamheflbgdaaW.PrintWords Go.Proofs.YtfmlamheflbgdaaW.PrintLast Go.Proofs.YtfmlamheflbgdaaW.PrintMore
attribute [local go_sem] max2_int min2_int max_two min_two max_three min_three max_four min_four
set_option linter.unusedVariables false
set_option linter.unusedSimpArgs false
def laws_szEventS.f (l0 : List (S49)) (a1 : Int) : Option (Int) := if (wrap64 (a1 - (l0.length : Int))) < 0 then (some (-1)) else (some (wrap64 (a1 - (l0.length : Int))))
set_option maxHeartbeats 8000000 in
set_option maxRecDepth 100000 in
theorem laws_szEventS.calls (A0 : Option Addr) (c0 : Nat) (l0 : List (S49)) (a1 : Int) (r : Int) (w : World) (hr0 : Kd.C k49 w A0 l0.length l0) (hc0 : l0.length ≤ c0) (h : laws_szEventS.f l0 a1 = some r) :
    Calls Try.prog 13 #[.slice A0 l0.length c0, .int .i64 a1] w fun e w' => e = .returned (.int .i64 r) ∧ Drawn0 w w' := by
  have HR0 := Ad_.mk hr0
  have HC0 := Ad_.mk hc0
  clear hr0 hc0
  have H := h
  unfold laws_szEventS.f at H
  clear h
  by_cases c3 : (wrap64 (a1 - (l0.length : Int))) < 0
  ·
   rw [if_pos c3] at H
   have c3b0 := decide_eq_true c3
   clear c3
   obtain rfl := Option.some.inj H
   go_enter Try.func13, Try.ntmps13
   go_wp2
   go_ret
   exact ⟨by first | rfl | (simp; done) | (simp [*]; done), by repeat (first | exact Drawn0.refl _ | apply Drawn0.step)⟩
  rw [if_neg c3] at H
  have c3b0 := decide_eq_false c3
  clear c3
  obtain rfl := Option.some.inj H
  go_enter Try.func13, Try.ntmps13
  go_wp2
  go_ret
  exact ⟨by first | rfl | (simp; done) | (simp [*]; done), by repeat (first | exact Drawn0.refl _ | apply Drawn0.step)⟩
def laws_szResult.f (a0_0 : Int) (a0_1 : ByteArray) (a0_2 : Int) (a0_3 : Int) (l0_4 : List (S49)) (a1 : Int) : Option (Int) := if (wrap64 (a1 - (a0_1.size : Int))) < 0 then (some (-1)) else ((laws_szEventS.f l0_4 (wrap64 (a1 - (a0_1.size : Int)))).bind fun t102 => (if t102 < 0 then (some (-1)) else (some t102)))
set_option maxHeartbeats 8000000 in
set_option maxRecDepth 100000 in
theorem laws_szResult.calls (a0_0 : Int) (a0_1 : ByteArray) (a0_2 : Int) (a0_3 : Int) (A0_4 : Option Addr) (c0_4 : Nat) (l0_4 : List (S49)) (a1 : Int) (r : Int) (w : World) (hr0_4 : Kd.C k49 w A0_4 l0_4.length l0_4) (hc0_4 : l0_4.length ≤ c0_4) (h : laws_szResult.f a0_0 a0_1 a0_2 a0_3 l0_4 a1 = some r) :
    Calls Try.prog 4 #[.agg #[.int .i64 a0_0, .string a0_1, .int .i64 a0_2, .int .i64 a0_3, .slice A0_4 l0_4.length c0_4], .int .i64 a1] w fun e w' => e = .returned (.int .i64 r) ∧ Below w.heap.size w w' := by
  have hu24 := Try.underlying24
  have HR0_4 := Ad_.mk hr0_4
  have HC0_4 := Ad_.mk hc0_4
  clear hr0_4 hc0_4
  have HB := Ad_.mk (Below.refl w.heap.size w)
  have H := h
  unfold laws_szResult.f at H
  clear h
  by_cases c3 : (wrap64 (a1 - (a0_1.size : Int))) < 0
  ·
   rw [if_pos c3] at H
   have c3b0 := decide_eq_true c3
   clear c3
   obtain rfl := Option.some.inj H
   go_enter Try.func4, Try.ntmps4
   go_wp2_with (first | ((with_reducible refine gD_ (N := 2) rfl ?_); refine bE_ ?hg (N := 2) ?hd (cs := #[.int .i64 a0_0, .string a0_1, .int .i64 a0_2, .int .i64 a0_3, .slice A0_4 l0_4.length c0_4]) (t := 24) ?hr ?_; (case hd => rfl); (case hg => rfl); (case hr => first | (go_simp; done) | (go_simp; rfl)); intro gb101 hg w4 hbox hb; have n0_ := Ad_.mk (bP_ (by repeat (with_reducible first | exact HB.out | apply bA_ | apply bN_ | apply b1_)) hb); have n1_ := Ad_.mk (hbox); have n2_ := Ad_.mk ((by rw [hg]; exact (bZ_ (by repeat (with_reducible first | exact HB.out | apply bA_ | apply bN_ | apply b1_))) : w.heap.size ≤ gb101)); have n3_ := Ad_.mk ((by rw [hg]; exact (bZ_ (by repeat (with_reducible first | exact HB.out | apply bA_ | apply bN_ | apply b1_))) : w.heap.size ≤ gb101)); clear HB; have HB := n0_; have BK101 := n1_; have GW101 := n2_; have GE101 := n3_; clear n0_ n1_ n2_ n3_; clear hb hbox hg; obtain ⟨hcz5_0, hcz5_1, hcz5_2, hcz5_3, hcz5_4⟩ := cells5_ BK101.out; obtain ⟨hfz5_0, hfz5_1, hfz5_2, hfz5_3, hfz5_4⟩ := froz5_ BK101.out))
   go_ret
   exact ⟨by first | rfl | (simp [errW_none, errW_some] <;> rfl) | (simp [*, errW_none, errW_some] <;> rfl), by repeat (with_reducible first | exact HB.out | apply bA_ | apply bN_ | apply b1_ | refine bS_ ?_ GE101.out)⟩
  rw [if_neg c3] at H
  have c3b0 := decide_eq_false c3
  clear c3
  replace H := Option.bind_eq_some_iff.mp H
  obtain ⟨t102, A60, H⟩ := H
  try dsimp only at H
  have A6 := Ad_.mk A60
  clear A60
  by_cases c7 : t102 < 0
  ·
   rw [if_pos c7] at H
   have c7b0 := decide_eq_true c7
   clear c7
   obtain rfl := Option.some.inj H
   go_enter Try.func4, Try.ntmps4
   go_wp2_with (first | ((with_reducible refine gD_ (N := 2) rfl ?_); refine bE_ ?hg (N := 2) ?hd (cs := #[.int .i64 a0_0, .string a0_1, .int .i64 a0_2, .int .i64 a0_3, .slice A0_4 l0_4.length c0_4]) (t := 24) ?hr ?_; (case hd => rfl); (case hg => rfl); (case hr => first | (go_simp; done) | (go_simp; rfl)); intro gb101 hg w8 hbox hb; have n0_ := Ad_.mk (bP_ (by repeat (with_reducible first | exact HB.out | apply bA_ | apply bN_ | apply b1_)) hb); have n1_ := Ad_.mk (hbox); have n2_ := Ad_.mk ((by rw [hg]; exact (bZ_ (by repeat (with_reducible first | exact HB.out | apply bA_ | apply bN_ | apply b1_))) : w.heap.size ≤ gb101)); have n3_ := Ad_.mk ((by rw [hg]; exact (bZ_ (by repeat (with_reducible first | exact HB.out | apply bA_ | apply bN_ | apply b1_))) : w.heap.size ≤ gb101)); clear HB; have HB := n0_; have BK101 := n1_; have GW101 := n2_; have GE101 := n3_; clear n0_ n1_ n2_ n3_; clear hb hbox hg; obtain ⟨hcz9_0, hcz9_1, hcz9_2, hcz9_3, hcz9_4⟩ := cells5_ BK101.out; obtain ⟨hfz9_0, hfz9_1, hfz9_2, hfz9_3, hfz9_4⟩ := froz5_ BK101.out) | ((with_reducible refine gC_ (f := 13) rfl ?_); refine gM_ (some 15) rfl rfl Try.func13 (by kernel_rfl) rfl #[.slice A0_4 l0_4.length c0_4, .int .i64 (wrap64 (a1 - (a0_1.size : Int)))] rfl ?_; (with_reducible refine (laws_szEventS.calls _ _ l0_4 (wrap64 (a1 - (a0_1.size : Int))) t102 _ ?side1 ?side2 A6.out).mono ?_); (case side1 => repeat (first | exact (Kd.C_below HR0_4.out HB.out) | (with_reducible refine Kd.C_alloc ?_ _) | (with_reducible refine Kd.C_drewN ?_ _) | (with_reducible refine Kd.C_drew ?_))); (case side2 => exact HC0_4.out); rintro e w' ⟨rfl, ⟨nd, rfl⟩⟩; refine ⟨_, rfl, ?_⟩))
   go_ret
   exact ⟨by first | rfl | (simp [errW_none, errW_some] <;> rfl) | (simp [*, errW_none, errW_some] <;> rfl), by repeat (with_reducible first | exact HB.out | apply bA_ | apply bN_ | apply b1_ | refine bS_ ?_ GE101.out)⟩
  rw [if_neg c7] at H
  have c7b0 := decide_eq_false c7
  clear c7
  obtain rfl := Option.some.inj H
  go_enter Try.func4, Try.ntmps4
  go_wp2_with (first | ((with_reducible refine gD_ (N := 2) rfl ?_); refine bE_ ?hg (N := 2) ?hd (cs := #[.int .i64 a0_0, .string a0_1, .int .i64 a0_2, .int .i64 a0_3, .slice A0_4 l0_4.length c0_4]) (t := 24) ?hr ?_; (case hd => rfl); (case hg => rfl); (case hr => first | (go_simp; done) | (go_simp; rfl)); intro gb101 hg w10 hbox hb; have n0_ := Ad_.mk (bP_ (by repeat (with_reducible first | exact HB.out | apply bA_ | apply bN_ | apply b1_)) hb); have n1_ := Ad_.mk (hbox); have n2_ := Ad_.mk ((by rw [hg]; exact (bZ_ (by repeat (with_reducible first | exact HB.out | apply bA_ | apply bN_ | apply b1_))) : w.heap.size ≤ gb101)); have n3_ := Ad_.mk ((by rw [hg]; exact (bZ_ (by repeat (with_reducible first | exact HB.out | apply bA_ | apply bN_ | apply b1_))) : w.heap.size ≤ gb101)); clear HB; have HB := n0_; have BK101 := n1_; have GW101 := n2_; have GE101 := n3_; clear n0_ n1_ n2_ n3_; clear hb hbox hg; obtain ⟨hcz11_0, hcz11_1, hcz11_2, hcz11_3, hcz11_4⟩ := cells5_ BK101.out; obtain ⟨hfz11_0, hfz11_1, hfz11_2, hfz11_3, hfz11_4⟩ := froz5_ BK101.out) | ((with_reducible refine gC_ (f := 13) rfl ?_); refine gM_ (some 15) rfl rfl Try.func13 (by kernel_rfl) rfl #[.slice A0_4 l0_4.length c0_4, .int .i64 (wrap64 (a1 - (a0_1.size : Int)))] rfl ?_; (with_reducible refine (laws_szEventS.calls _ _ l0_4 (wrap64 (a1 - (a0_1.size : Int))) t102 _ ?side1 ?side2 A6.out).mono ?_); (case side1 => repeat (first | exact (Kd.C_below HR0_4.out HB.out) | (with_reducible refine Kd.C_alloc ?_ _) | (with_reducible refine Kd.C_drewN ?_ _) | (with_reducible refine Kd.C_drew ?_))); (case side2 => exact HC0_4.out); rintro e w' ⟨rfl, ⟨nd, rfl⟩⟩; refine ⟨_, rfl, ?_⟩))
  go_ret
  exact ⟨by first | rfl | (simp [errW_none, errW_some] <;> rfl) | (simp [*, errW_none, errW_some] <;> rfl), by repeat (with_reducible first | exact HB.out | apply bA_ | apply bN_ | apply b1_ | refine bS_ ?_ GE101.out)⟩
end Go.Proofs.Ytfmlamheflbgdaa.PAll
end
section
namespace Go.Proofs.Ytfmlamheflbgdaa.PAll
open Go.RowKit Go.Proofs.YtfmlamheflbgdaaW.PrintWords Go.Proofs.YtfmlamheflbgdaaW.PrintLast Go.Proofs.YtfmlamheflbgdaaW.PrintMore
attribute [local go_sem] max2_int min2_int max_two min_two max_three min_three max_four min_four
set_option linter.unusedVariables false
set_option linter.unusedSimpArgs false
theorem eqA42 (d : Nat) (w : World) (x0 y0 : Int) (x1 y1 : Int) :
    (Op.equalIn (d + 2) 42 (.agg #[.int .i64 x0, .int .i64 x1]) (.agg #[.int .i64 y0, .int .i64 y1])).run Try.prog w = .ok (x0 == y0 && (x1 == y1)) w := by
  refine eqA_of Try.underlying42 (by kernel_rfl) ?_
  refine eqf_cons (by rfl) (by go_simp; rfl) (by go_simp; rfl) (by go_simp) ?_
  exact eqf_last (by rfl) (by go_simp; rfl) (by go_simp; rfl) (by go_simp)
end Go.Proofs.Ytfmlamheflbgdaa.PAll
end
section
namespace Go.Proofs.Ytfmlamheflbgdaa.PAll
open Go.RowKit Go.Proofs.YtfmlamheflbgdaaW.PrintWords Go.Proofs.YtfmlamheflbgdaaW.PrintLast Go.Proofs.YtfmlamheflbgdaaW.PrintMore
attribute [local go_sem] max2_int min2_int max_two min_two max_three min_three max_four min_four
set_option linter.unusedVariables false
set_option linter.unusedSimpArgs false
attribute [local go_sem high] eqA42
def spec_l12Edge.l0 : Nat → List (S42) → List (S42) → Bool → Int → Int → Int → Option ((List (S42)))
  | 0, _, _, _, _, _, _ => none
  | k + 1, x0, x5, x6, x7, x104000, x104001 => if x7 < (x0.length : Int) then (if 0 ≤ x7 then (if (((rd_T42 x0 x7).f0) == x104000 && (((rd_T42 x0 x7).f1) == x104001)) = true then (some x0) else (if x6 = true then (if x5.length < 8796093022208 then (spec_l12Edge.l0 k x0 (x5 ++ [(⟨(rd_T42 x0 x7).f0, (rd_T42 x0 x7).f1⟩ : S42)]) x6 (wrap64 (x7 + 1)) x104000 x104001) else (none)) else (if ((rd_T42 x0 x7).f0) > x104000 then (if x5.length < 8796093022208 then ((some (x5 ++ [(⟨x104000, x104001⟩ : S42)] : List (S42))).bind fun y116 => (if y116.length < 8796093022208 then (spec_l12Edge.l0 k x0 (y116 ++ [(⟨(rd_T42 x0 x7).f0, (rd_T42 x0 x7).f1⟩ : S42)]) true (wrap64 (x7 + 1)) x104000 x104001) else (none))) else (none)) else (if ((rd_T42 x0 x7).f0) = x104000 then (if ((rd_T42 x0 x7).f1) > x104001 then (if x5.length < 8796093022208 then ((some (x5 ++ [(⟨x104000, x104001⟩ : S42)] : List (S42))).bind fun y125 => (if y125.length < 8796093022208 then (spec_l12Edge.l0 k x0 (y125 ++ [(⟨(rd_T42 x0 x7).f0, (rd_T42 x0 x7).f1⟩ : S42)]) true (wrap64 (x7 + 1)) x104000 x104001) else (none))) else (none)) else (if x5.length < 8796093022208 then (spec_l12Edge.l0 k x0 (x5 ++ [(⟨(rd_T42 x0 x7).f0, (rd_T42 x0 x7).f1⟩ : S42)]) x6 (wrap64 (x7 + 1)) x104000 x104001) else (none))) else (if x5.length < 8796093022208 then (spec_l12Edge.l0 k x0 (x5 ++ [(⟨(rd_T42 x0 x7).f0, (rd_T42 x0 x7).f1⟩ : S42)]) x6 (wrap64 (x7 + 1)) x104000 x104001) else (none)))))) else (none)) else (if x6 = true then (some x5) else (if x5.length < 8796093022208 then (some (x5 ++ [(⟨x104000, x104001⟩ : S42)])) else (none)))
def spec_l12Edge.f (k : Nat) (l0 : List (S42)) (a1_0 : Int) (a1_1 : Int) : Option ((List (S42))) := spec_l12Edge.l0 k l0 (([] : List (S42))) false 0 a1_0 a1_1
set_option maxHeartbeats 8000000 in
set_option maxRecDepth 100000 in
theorem spec_l12Edge.calls (k : Nat) (P0_ : Nat → Prop) (u9000_ : Value) (l0 : List (S42)) (a1_0 : Int) (a1_1 : Int) (r : List (S42)) (w0 w : World) (hB : Below w0.heap.size w0 w) (ho0 : Kd.R k42 42 w w0.heap.size P0_ u9000_ l0) (h : spec_l12Edge.f k l0 a1_0 a1_1 = some r) :
    Calls Try.prog 14 #[u9000_, .agg #[.int .i64 a1_0, .int .i64 a1_1]] w fun e w' => ∃ v0_ : Value, e = .returned (v0_) ∧ Kd.R k42 42 w' w0.heap.size (fun k_ => (P0_ k_ ∨ w.heap.size ≤ k_)) v0_ r ∧ Below w0.heap.size w0 w' ∧ Kept w w' (fun k_ => P0_ k_) := by
  have hu42 := Try.underlying42
  have HO0 := Ad_.mk (show Kd.R k42 42 w w0.heap.size (fun k_ => (P0_ k_ ∨ w.heap.size ≤ k_)) u9000_ l0 from Kd.R_mono ho0 (fun k_ hk => (.inl hk)))
  have HK := Ad_.mk (Kept.refl w (fun k_ => P0_ k_))
  have HW0 := Ad_.mk hB.size
  have HB := Ad_.mk hB
  clear hB
  have H := h
  unfold spec_l12Edge.f at H
  clear h
  obtain ⟨y104, hy104⟩ : ∃ y_ : List (S42), y_ = (([] : List (S42))) := ⟨_, rfl⟩
  replace H : (spec_l12Edge.l0 k l0 y104 false 0 a1_0 a1_1) = some r := by first | (rw [hy104]; with_reducible exact H) | (have H2_ := (Option.bind_some _ _).symm.trans H; rw [hy104]; with_reducible exact H2_) | (have H2_ := (Option.bind_some _ _).symm.trans H; with_reducible exact H2_) | with_reducible exact H | (rw [hy104]; exact H) | exact H
  have Ny104 := Ad_.mk hy104
  clear hy104
  have H' := Ad_.mk H
  clear H
  go_enter Try.func14, Try.ntmps14
  go_wp2_with (first | ((with_reducible refine gD_ (N := 3) rfl ?_); refine bE_ ?hg (N := 3) ?hd (cs := #[.int .i64 a1_0, .int .i64 a1_1]) (t := 42) ?hr ?_; (case hd => rfl); (case hg => rfl); (case hr => first | (go_simp; done) | (go_simp; rfl)); intro gb103 hg w3 hbox hb; have n0_ := Ad_.mk (Kd.R_below (Kd.R_elderB (by (with_reducible repeat (first | apply Kd.R_alloc | apply Kd.R_drewN | apply Kd.R_drew)); exact HO0.out) gb103 (Nat.le_of_eq hg.symm)) hb); have n1_ := Ad_.mk (Kept.below (S := (fun k_ => P0_ k_)) (by repeat (first | (with_reducible first | exact HK.out | apply Kept.alloc | apply Kept.drewN | apply Kept.drew) | exact HK.out)) hb); have n2_ := Ad_.mk (bP_ (by repeat (with_reducible first | exact HB.out | apply bA_ | apply bN_ | apply b1_)) hb); have n3_ := Ad_.mk (hbox); have n4_ := Ad_.mk ((by rw [hg]; exact (by first | exact HK.out.1 | exact (show Kept w _ (fun k_ => P0_ k_) from by repeat (first | (with_reducible first | exact HK.out | apply Kept.alloc | apply Kept.drewN | apply Kept.drew) | exact HK.out)).1) : w.heap.size ≤ gb103)); have n5_ := Ad_.mk ((by rw [hg]; exact (bZ_ (by repeat (with_reducible first | exact HB.out | apply bA_ | apply bN_ | apply b1_))) : w0.heap.size ≤ gb103)); clear HO0; clear HK; clear HB; have HO0 := n0_; have HK := n1_; have HB := n2_; have BK103 := n3_; have GW103 := n4_; have GE103 := n5_; clear n0_ n1_ n2_ n3_ n4_ n5_; clear hb hbox hg) | ((with_reducible refine gD_ (N := 8) rfl ?_); refine Kd.R_lit k42 _ 42 ?hg (N := 8) ?hd (xs := ([] : List (S42))) (inner := []) (ok := fun _ => True) (okp := fun _ => True) ?hr ?hp (fun _ hk => hk) trivial (Below.refl _ _) (Nat.le_refl _) (by simp) ?_; (case hd => rfl); (case hg => rfl); (case hr => first | (go_simp; done) | (go_simp; rfl)); (case hp => exact (Reps.none _ _)); intro v105 w4 ho5 hb hg_ hnew_; clear hg_ hnew_; (first | rw [← Ny104.out] at ho5 | (simp only [Int.reduceToNat] at ho5; rw [← Ny104.out] at ho5)); have n0_ := Ad_.mk (Kd.R_elder' (by (with_reducible repeat (first | apply Kd.R_alloc | apply Kd.R_drewN | apply Kd.R_drew)); exact HO0.out) (Kd.R_base ho5) hb); have n1_ := Ad_.mk (Kd.R_lower (Kd.R_newB (Kd.R_new' (Kd.R_newM (M := fun k_ => (P0_ k_ ∨ w.heap.size ≤ k_)) ho5 (by first | exact HK.out.1 | exact (show Kept w _ (fun k_ => P0_ k_) from by repeat (first | (with_reducible first | exact HK.out | apply Kept.alloc | apply Kept.drewN | apply Kept.drew | refine Kept.setCell ?_ (.inr GW103.out) _) | exact HK.out)).1) (fun k_ h_ => .inr h_)) (Kd.R_lt (by (with_reducible repeat (first | apply Kd.R_alloc | apply Kd.R_drewN | apply Kd.R_drew)); exact HO0.out))) (g := gb103) (o := .cells #[.int .i64 a1_0, .int .i64 a1_1] 42 (0, 0)) (by (with_reducible repeat (first | refine kN_ ?_ _ | refine k1_ ?_ | refine kA_ ?_ _)); exact BK103.out)) (bZ_ (by repeat (with_reducible first | exact HB.out | apply bA_ | apply bN_ | apply b1_ | refine bS_ ?_ GE103.out)))); have n2_ := Ad_.mk (blk_below (g := gb103) (o := .cells #[.int .i64 a1_0, .int .i64 a1_1] 42 (0, 0)) (by (with_reducible repeat (first | refine kN_ ?_ _ | refine k1_ ?_ | refine kA_ ?_ _)); exact BK103.out) hb); have n3_ := Ad_.mk (Kept.below (S := (fun k_ => P0_ k_)) (by repeat (first | (with_reducible first | exact HK.out | apply Kept.alloc | apply Kept.drewN | apply Kept.drew | refine Kept.setCell ?_ (.inr GW103.out) _) | exact HK.out)) hb); have n4_ := Ad_.mk (bP_ (by repeat (with_reducible first | exact HB.out | apply bA_ | apply bN_ | apply b1_ | refine bS_ ?_ GE103.out)) hb); clear HO0; clear BK103; clear HK; clear HB; have HO0 := n0_; have HO106 := n1_; have BK103 := n2_; have HK := n3_; have HB := n4_; clear n0_ n1_ n2_ n3_ n4_; clear hb ho5))
  repeat (go_quiet (first | ((with_reducible refine gD_ (N := 3) rfl ?_); refine bE_ ?hg (N := 3) ?hd (cs := #[.int .i64 a1_0, .int .i64 a1_1]) (t := 42) ?hr ?_; (case hd => rfl); (case hg => rfl); (case hr => first | (go_simp; done) | (go_simp; rfl)); intro gb103 hg w3 hbox hb; have n0_ := Ad_.mk (Kd.R_below (Kd.R_elderB (by (with_reducible repeat (first | apply Kd.R_alloc | apply Kd.R_drewN | apply Kd.R_drew)); exact HO0.out) gb103 (Nat.le_of_eq hg.symm)) hb); have n1_ := Ad_.mk (Kept.below (S := (fun k_ => P0_ k_)) (by repeat (first | (with_reducible first | exact HK.out | apply Kept.alloc | apply Kept.drewN | apply Kept.drew) | exact HK.out)) hb); have n2_ := Ad_.mk (bP_ (by repeat (with_reducible first | exact HB.out | apply bA_ | apply bN_ | apply b1_)) hb); have n3_ := Ad_.mk (hbox); have n4_ := Ad_.mk ((by rw [hg]; exact (by first | exact HK.out.1 | exact (show Kept w _ (fun k_ => P0_ k_) from by repeat (first | (with_reducible first | exact HK.out | apply Kept.alloc | apply Kept.drewN | apply Kept.drew) | exact HK.out)).1) : w.heap.size ≤ gb103)); have n5_ := Ad_.mk ((by rw [hg]; exact (bZ_ (by repeat (with_reducible first | exact HB.out | apply bA_ | apply bN_ | apply b1_))) : w0.heap.size ≤ gb103)); clear HO0; clear HK; clear HB; have HO0 := n0_; have HK := n1_; have HB := n2_; have BK103 := n3_; have GW103 := n4_; have GE103 := n5_; clear n0_ n1_ n2_ n3_ n4_ n5_; clear hb hbox hg) | ((with_reducible refine gD_ (N := 8) rfl ?_); refine Kd.R_lit k42 _ 42 ?hg (N := 8) ?hd (xs := ([] : List (S42))) (inner := []) (ok := fun _ => True) (okp := fun _ => True) ?hr ?hp (fun _ hk => hk) trivial (Below.refl _ _) (Nat.le_refl _) (by simp) ?_; (case hd => rfl); (case hg => rfl); (case hr => first | (go_simp; done) | (go_simp; rfl)); (case hp => exact (Reps.none _ _)); intro v105 w4 ho5 hb hg_ hnew_; clear hg_ hnew_; (first | rw [← Ny104.out] at ho5 | (simp only [Int.reduceToNat] at ho5; rw [← Ny104.out] at ho5)); have n0_ := Ad_.mk (Kd.R_elder' (by (with_reducible repeat (first | apply Kd.R_alloc | apply Kd.R_drewN | apply Kd.R_drew)); exact HO0.out) (Kd.R_base ho5) hb); have n1_ := Ad_.mk (Kd.R_lower (Kd.R_newB (Kd.R_new' (Kd.R_newM (M := fun k_ => (P0_ k_ ∨ w.heap.size ≤ k_)) ho5 (by first | exact HK.out.1 | exact (show Kept w _ (fun k_ => P0_ k_) from by repeat (first | (with_reducible first | exact HK.out | apply Kept.alloc | apply Kept.drewN | apply Kept.drew | refine Kept.setCell ?_ (.inr GW103.out) _) | exact HK.out)).1) (fun k_ h_ => .inr h_)) (Kd.R_lt (by (with_reducible repeat (first | apply Kd.R_alloc | apply Kd.R_drewN | apply Kd.R_drew)); exact HO0.out))) (g := gb103) (o := .cells #[.int .i64 a1_0, .int .i64 a1_1] 42 (0, 0)) (by (with_reducible repeat (first | refine kN_ ?_ _ | refine k1_ ?_ | refine kA_ ?_ _)); exact BK103.out)) (bZ_ (by repeat (with_reducible first | exact HB.out | apply bA_ | apply bN_ | apply b1_ | refine bS_ ?_ GE103.out)))); have n2_ := Ad_.mk (blk_below (g := gb103) (o := .cells #[.int .i64 a1_0, .int .i64 a1_1] 42 (0, 0)) (by (with_reducible repeat (first | refine kN_ ?_ _ | refine k1_ ?_ | refine kA_ ?_ _)); exact BK103.out) hb); have n3_ := Ad_.mk (Kept.below (S := (fun k_ => P0_ k_)) (by repeat (first | (with_reducible first | exact HK.out | apply Kept.alloc | apply Kept.drewN | apply Kept.drew | refine Kept.setCell ?_ (.inr GW103.out) _) | exact HK.out)) hb); have n4_ := Ad_.mk (bP_ (by repeat (with_reducible first | exact HB.out | apply bA_ | apply bN_ | apply b1_ | refine bS_ ?_ GE103.out)) hb); clear HO0; clear BK103; clear HK; clear HB; have HO0 := n0_; have HO106 := n1_; have BK103 := n2_; have HK := n3_; have HB := n4_; clear n0_ n1_ n2_ n3_ n4_; clear hb ho5)); try go_wp2_with (first | ((with_reducible refine gD_ (N := 3) rfl ?_); refine bE_ ?hg (N := 3) ?hd (cs := #[.int .i64 a1_0, .int .i64 a1_1]) (t := 42) ?hr ?_; (case hd => rfl); (case hg => rfl); (case hr => first | (go_simp; done) | (go_simp; rfl)); intro gb103 hg w3 hbox hb; have n0_ := Ad_.mk (Kd.R_below (Kd.R_elderB (by (with_reducible repeat (first | apply Kd.R_alloc | apply Kd.R_drewN | apply Kd.R_drew)); exact HO0.out) gb103 (Nat.le_of_eq hg.symm)) hb); have n1_ := Ad_.mk (Kept.below (S := (fun k_ => P0_ k_)) (by repeat (first | (with_reducible first | exact HK.out | apply Kept.alloc | apply Kept.drewN | apply Kept.drew) | exact HK.out)) hb); have n2_ := Ad_.mk (bP_ (by repeat (with_reducible first | exact HB.out | apply bA_ | apply bN_ | apply b1_)) hb); have n3_ := Ad_.mk (hbox); have n4_ := Ad_.mk ((by rw [hg]; exact (by first | exact HK.out.1 | exact (show Kept w _ (fun k_ => P0_ k_) from by repeat (first | (with_reducible first | exact HK.out | apply Kept.alloc | apply Kept.drewN | apply Kept.drew) | exact HK.out)).1) : w.heap.size ≤ gb103)); have n5_ := Ad_.mk ((by rw [hg]; exact (bZ_ (by repeat (with_reducible first | exact HB.out | apply bA_ | apply bN_ | apply b1_))) : w0.heap.size ≤ gb103)); clear HO0; clear HK; clear HB; have HO0 := n0_; have HK := n1_; have HB := n2_; have BK103 := n3_; have GW103 := n4_; have GE103 := n5_; clear n0_ n1_ n2_ n3_ n4_ n5_; clear hb hbox hg) | ((with_reducible refine gD_ (N := 8) rfl ?_); refine Kd.R_lit k42 _ 42 ?hg (N := 8) ?hd (xs := ([] : List (S42))) (inner := []) (ok := fun _ => True) (okp := fun _ => True) ?hr ?hp (fun _ hk => hk) trivial (Below.refl _ _) (Nat.le_refl _) (by simp) ?_; (case hd => rfl); (case hg => rfl); (case hr => first | (go_simp; done) | (go_simp; rfl)); (case hp => exact (Reps.none _ _)); intro v105 w4 ho5 hb hg_ hnew_; clear hg_ hnew_; (first | rw [← Ny104.out] at ho5 | (simp only [Int.reduceToNat] at ho5; rw [← Ny104.out] at ho5)); have n0_ := Ad_.mk (Kd.R_elder' (by (with_reducible repeat (first | apply Kd.R_alloc | apply Kd.R_drewN | apply Kd.R_drew)); exact HO0.out) (Kd.R_base ho5) hb); have n1_ := Ad_.mk (Kd.R_lower (Kd.R_newB (Kd.R_new' (Kd.R_newM (M := fun k_ => (P0_ k_ ∨ w.heap.size ≤ k_)) ho5 (by first | exact HK.out.1 | exact (show Kept w _ (fun k_ => P0_ k_) from by repeat (first | (with_reducible first | exact HK.out | apply Kept.alloc | apply Kept.drewN | apply Kept.drew | refine Kept.setCell ?_ (.inr GW103.out) _) | exact HK.out)).1) (fun k_ h_ => .inr h_)) (Kd.R_lt (by (with_reducible repeat (first | apply Kd.R_alloc | apply Kd.R_drewN | apply Kd.R_drew)); exact HO0.out))) (g := gb103) (o := .cells #[.int .i64 a1_0, .int .i64 a1_1] 42 (0, 0)) (by (with_reducible repeat (first | refine kN_ ?_ _ | refine k1_ ?_ | refine kA_ ?_ _)); exact BK103.out)) (bZ_ (by repeat (with_reducible first | exact HB.out | apply bA_ | apply bN_ | apply b1_ | refine bS_ ?_ GE103.out)))); have n2_ := Ad_.mk (blk_below (g := gb103) (o := .cells #[.int .i64 a1_0, .int .i64 a1_1] 42 (0, 0)) (by (with_reducible repeat (first | refine kN_ ?_ _ | refine k1_ ?_ | refine kA_ ?_ _)); exact BK103.out) hb); have n3_ := Ad_.mk (Kept.below (S := (fun k_ => P0_ k_)) (by repeat (first | (with_reducible first | exact HK.out | apply Kept.alloc | apply Kept.drewN | apply Kept.drew | refine Kept.setCell ?_ (.inr GW103.out) _) | exact HK.out)) hb); have n4_ := Ad_.mk (bP_ (by repeat (with_reducible first | exact HB.out | apply bA_ | apply bN_ | apply b1_ | refine bS_ ?_ GE103.out)) hb); clear HO0; clear BK103; clear HK; clear HB; have HO0 := n0_; have HO106 := n1_; have BK103 := n2_; have HK := n3_; have HB := n4_; clear n0_ n1_ n2_ n3_ n4_; clear hb ho5)))
  go_loopg [5, 6, 7] k (fun kq v5 v6 v7 w' => ∃ (x5_1 : List (S42)) (x6_1 : Bool) (x7_1 : Int), v6 = .bool x6_1 ∧ v7 = .int .i64 x7_1 ∧ Ad_ (spec_l12Edge.l0 kq l0 x5_1 x6_1 x7_1 a1_0 a1_1 = some r) ∧ Ad_ (kq ≤ k) ∧ Ad_ (Kd.R k42 42 w' w0.heap.size (fun k_ => (P0_ k_ ∨ w.heap.size ≤ k_) ∧ some k_ ≠ (v5 : Value).ownBlock ∧ k_ ≠ gb103) u9000_ l0) ∧ Ad_ (Kd.R k42 42 w' w0.heap.size (fun k_ => (P0_ k_ ∨ w.heap.size ≤ k_) ∧ some k_ ≠ (u9000_ : Value).ownBlock ∧ k_ ≠ gb103) v5 x5_1) ∧ Ad_ (w'.heap[gb103]? = some (.cells #[.int .i64 a1_0, .int .i64 a1_1] 42 (0, 0))) ∧ Ad_ (Kept w w' (fun k_ => P0_ k_)) ∧ Ad_ (Below w0.heap.size w0 w'))
  case atStart => exact ⟨(y104), (false), (0), fs_, fs_, H', ⟨Nat.le_refl _⟩, ⟨by (with_reducible repeat (first | apply Kd.R_alloc | apply Kd.R_drewN | apply Kd.R_drew)); exact Kd.R_mono HO0.out (fun _ hk => ⟨hk.1.1, ⟨hk.2, hk.1.2⟩⟩)⟩, ⟨by (with_reducible repeat (first | apply Kd.R_alloc | apply Kd.R_drewN | apply Kd.R_drew)); exact Kd.R_mono HO106.out (fun _ hk => ⟨hk.1.1.1, ⟨hk.1.2, hk.2⟩⟩)⟩, ⟨by (with_reducible repeat (first | refine kN_ ?_ _ | refine k1_ ?_ | refine kA_ ?_ _)); exact BK103.out⟩, ⟨by repeat (first | (with_reducible first | exact HK.out | apply Kept.alloc | apply Kept.drewN | apply Kept.drew | refine Kept.setCell ?_ (.inr GW103.out) _) | exact HK.out)⟩, ⟨by repeat (with_reducible first | exact HB.out | apply bA_ | apply bN_ | apply b1_ | refine bS_ ?_ GE103.out)⟩⟩
  case round =>
    clear H'
    try clear p2
    obtain ⟨x5_1, x6_1, x7_1, rfl, rfl, HA, HK1, HO_0, HO_5, BK103, HK, HB⟩ := hrel
    cases gk with
    | zero => exact absurd HA.out (by simp [spec_l12Edge.l0])
    | succ k1 =>
      have H := HA.out
      clear HA
      simp only [spec_l12Edge.l0] at H
      by_cases c6 : x7_1 < (l0.length : Int)
      rotate_left
      ·
       rw [if_neg c6] at H
       have c6b0 := decide_eq_false c6
       clear c6
       by_cases c39 : x6_1 = true
       ·
        subst c39
        have H1 : (some x5_1) = some r := by rw [if_pos rfl] at H; exact H
        clear H
        have H := H1
        clear H1
        obtain rfl := Option.some.inj H
        obtain ⟨Ao40, co40, eo40⟩ := Kd.R_slice HO_0.out
        subst eo40
        go_wp2
        repeat (go_quiet (fail); try go_wp2)
        go_ret
        exact ⟨_, by first | rfl | (simp [errW_none, errW_some] <;> rfl) | (simp [*, errW_none, errW_some] <;> rfl), by (with_reducible repeat (first | apply Kd.R_alloc | apply Kd.R_drewN | apply Kd.R_drew)); exact Kd.R_mono HO_5.out (fun _ hk => hk.1), by repeat (with_reducible first | exact HB.out | apply bA_ | apply bN_ | apply b1_ | refine bS_ ?_ GE103.out), by repeat (first | (with_reducible first | exact HK.out | apply Kept.alloc | apply Kept.drewN | apply Kept.drew | refine Kept.setCell ?_ (.inr GW103.out) _) | exact HK.out)⟩
       replace c39 := Bool.eq_false_iff.mpr c39
       subst c39
       have H1 : (if x5_1.length < 8796093022208 then (some (x5_1 ++ [(⟨a1_0, a1_1⟩ : S42)])) else (none)) = some r := by rw [if_neg (show ¬ (false = true) by decide)] at H; exact H
       clear H
       have H := H1
       clear H1
       by_cases c41 : x5_1.length < 8796093022208
       rotate_left
       ·
        rw [if_neg c41] at H
        exact absurd H (by simp)
       rw [if_pos c41] at H
       have LMc41 := Ad_.mk c41
       clear c41
       obtain ⟨y107, hy107⟩ : ∃ y_ : List (S42), y_ = (x5_1 ++ [(⟨a1_0, a1_1⟩ : S42)]) := ⟨_, rfl⟩
       replace H : (some y107) = some r := by first | (rw [hy107]; with_reducible exact H) | (have H2_ := (Option.bind_some _ _).symm.trans H; rw [hy107]; with_reducible exact H2_) | (have H2_ := (Option.bind_some _ _).symm.trans H; with_reducible exact H2_) | with_reducible exact H | (rw [hy107]; exact H) | exact H
       have Ny107 := Ad_.mk hy107
       clear hy107
       obtain rfl := Option.some.inj H
       obtain ⟨Ao42, co42, eo42⟩ := Kd.R_slice HO_0.out
       subst eo42
       obtain ⟨hcz43_0, hcz43_1⟩ := cells2_ BK103.out
       obtain ⟨hfz43_0, hfz43_1⟩ := froz2_ BK103.out
       go_wp2_with (first | ((with_reducible refine gB_ (b := .append) (xs := #[.tmp 67, .tmp 69]) rfl ?_); at_builtin; refine Kd.R_append k42 (w0 := w0) w0.heap.size rfl (.tmp 67) (.tmp 69) 26 42 (.agg #[(.int .i64 0), (.int .i64 0)]) 16 rfl Try.underlying26 info42 rfl (by decide) (by omega) u5 x5_1 (⟨a1_0, a1_1⟩ : S42) [.int .i64 a1_0, .int .i64 a1_1] (fun k_ => (P0_ k_ ∨ w.heap.size ≤ k_) ∧ some k_ ≠ (.slice Ao42 l0.length co42 : Value).ownBlock ∧ k_ ≠ gb103) (fun _ => False) rfl rfl ?aP (fun _ hk => hk.elim) ?aF ?aO ?aB ?aS ?aL ?_; (case aP => exact k42_mkM _ _ _ (⟨a1_0, a1_1⟩ : S42)); (case aB => exact (by repeat (with_reducible first | exact HB.out | apply bA_ | apply bN_ | apply b1_ | refine bS_ ?_ GE103.out))); (case aF => exact (fun k_ hk => ⟨(.inr (Nat.le_trans (by first | exact HK.out.1 | exact (show Kept w _ (fun k_ => P0_ k_) from by repeat (first | (with_reducible first | exact HK.out | apply Kept.alloc | apply Kept.drewN | apply Kept.drew | refine Kept.setCell ?_ (.inr GW103.out) _) | exact HK.out)).1) hk)), Kd.fresh' (Kd.R_lt (by (with_reducible repeat (first | apply Kd.R_alloc | apply Kd.R_drewN | apply Kd.R_drew)); exact HO_0.out)) k_ hk, Kd.freshB (g := gb103) (o := .cells #[.int .i64 a1_0, .int .i64 a1_1] 42 (0, 0)) (by (with_reducible repeat (first | refine kN_ ?_ _ | refine k1_ ?_ | refine kA_ ?_ _)); exact BK103.out) k_ hk⟩)); (case aO => exact (by (with_reducible repeat (first | apply Kd.R_alloc | apply Kd.R_drewN | apply Kd.R_drew)); exact HO_5.out)); (case aS => exact (bZ_ (by repeat (with_reducible first | exact HB.out | apply bA_ | apply bN_ | apply b1_ | refine bS_ ?_ GE103.out)))); (case aL => have := LMc41.out; omega); intro v108 w44 ho hb hg hat; rw [← Ny107.out] at ho; have n0_ := Ad_.mk (Kd.R_after (ok := (fun k_ => (P0_ k_ ∨ w.heap.size ≤ k_) ∧ k_ ≠ gb103)) (by (with_reducible repeat (first | apply Kd.R_alloc | apply Kd.R_drewN | apply Kd.R_drew)); exact Kd.R_mono HO_0.out (fun _ hk => ⟨⟨hk.1, hk.2.2⟩, hk.2.1⟩)) hg hat); have n1_ := Ad_.mk (blk_grown (g := gb103) (o := .cells #[.int .i64 a1_0, .int .i64 a1_1] 42 (0, 0)) (by (with_reducible repeat (first | refine kN_ ?_ _ | refine k1_ ?_ | refine kA_ ?_ _)); exact BK103.out) hg (Kd.R_away HO_5.out (fun _ hk => hk.2.2))); have n2_ := Ad_.mk (hb); have n3_ := Ad_.mk (Kept.of_grown (S := (fun k_ => P0_ k_)) hg (by repeat (first | (with_reducible first | exact HK.out | apply Kept.alloc | apply Kept.drewN | apply Kept.drew | refine Kept.setCell ?_ (.inr GW103.out) _) | exact HK.out)) (fun k_ e_ => (HO_5.out.1 k_ e_).1)); have n4_ := Ad_.mk (ho); clear HO_0; clear BK103; clear HB; clear HK; clear HO_5; have HO_0 := n0_; have BK103 := n1_; have HB := n2_; have HK := n3_; have HO109 := n4_; clear n0_ n1_ n2_ n3_ n4_; clear ho hb hg hat))
       repeat (go_quiet (first | ((with_reducible refine gB_ (b := .append) (xs := #[.tmp 67, .tmp 69]) rfl ?_); at_builtin; refine Kd.R_append k42 (w0 := w0) w0.heap.size rfl (.tmp 67) (.tmp 69) 26 42 (.agg #[(.int .i64 0), (.int .i64 0)]) 16 rfl Try.underlying26 info42 rfl (by decide) (by omega) u5 x5_1 (⟨a1_0, a1_1⟩ : S42) [.int .i64 a1_0, .int .i64 a1_1] (fun k_ => (P0_ k_ ∨ w.heap.size ≤ k_) ∧ some k_ ≠ (.slice Ao42 l0.length co42 : Value).ownBlock ∧ k_ ≠ gb103) (fun _ => False) rfl rfl ?aP (fun _ hk => hk.elim) ?aF ?aO ?aB ?aS ?aL ?_; (case aP => exact k42_mkM _ _ _ (⟨a1_0, a1_1⟩ : S42)); (case aB => exact (by repeat (with_reducible first | exact HB.out | apply bA_ | apply bN_ | apply b1_ | refine bS_ ?_ GE103.out))); (case aF => exact (fun k_ hk => ⟨(.inr (Nat.le_trans (by first | exact HK.out.1 | exact (show Kept w _ (fun k_ => P0_ k_) from by repeat (first | (with_reducible first | exact HK.out | apply Kept.alloc | apply Kept.drewN | apply Kept.drew | refine Kept.setCell ?_ (.inr GW103.out) _) | exact HK.out)).1) hk)), Kd.fresh' (Kd.R_lt (by (with_reducible repeat (first | apply Kd.R_alloc | apply Kd.R_drewN | apply Kd.R_drew)); exact HO_0.out)) k_ hk, Kd.freshB (g := gb103) (o := .cells #[.int .i64 a1_0, .int .i64 a1_1] 42 (0, 0)) (by (with_reducible repeat (first | refine kN_ ?_ _ | refine k1_ ?_ | refine kA_ ?_ _)); exact BK103.out) k_ hk⟩)); (case aO => exact (by (with_reducible repeat (first | apply Kd.R_alloc | apply Kd.R_drewN | apply Kd.R_drew)); exact HO_5.out)); (case aS => exact (bZ_ (by repeat (with_reducible first | exact HB.out | apply bA_ | apply bN_ | apply b1_ | refine bS_ ?_ GE103.out)))); (case aL => have := LMc41.out; omega); intro v108 w44 ho hb hg hat; rw [← Ny107.out] at ho; have n0_ := Ad_.mk (Kd.R_after (ok := (fun k_ => (P0_ k_ ∨ w.heap.size ≤ k_) ∧ k_ ≠ gb103)) (by (with_reducible repeat (first | apply Kd.R_alloc | apply Kd.R_drewN | apply Kd.R_drew)); exact Kd.R_mono HO_0.out (fun _ hk => ⟨⟨hk.1, hk.2.2⟩, hk.2.1⟩)) hg hat); have n1_ := Ad_.mk (blk_grown (g := gb103) (o := .cells #[.int .i64 a1_0, .int .i64 a1_1] 42 (0, 0)) (by (with_reducible repeat (first | refine kN_ ?_ _ | refine k1_ ?_ | refine kA_ ?_ _)); exact BK103.out) hg (Kd.R_away HO_5.out (fun _ hk => hk.2.2))); have n2_ := Ad_.mk (hb); have n3_ := Ad_.mk (Kept.of_grown (S := (fun k_ => P0_ k_)) hg (by repeat (first | (with_reducible first | exact HK.out | apply Kept.alloc | apply Kept.drewN | apply Kept.drew | refine Kept.setCell ?_ (.inr GW103.out) _) | exact HK.out)) (fun k_ e_ => (HO_5.out.1 k_ e_).1)); have n4_ := Ad_.mk (ho); clear HO_0; clear BK103; clear HB; clear HK; clear HO_5; have HO_0 := n0_; have BK103 := n1_; have HB := n2_; have HK := n3_; have HO109 := n4_; clear n0_ n1_ n2_ n3_ n4_; clear ho hb hg hat)); try go_wp2_with (first | ((with_reducible refine gB_ (b := .append) (xs := #[.tmp 67, .tmp 69]) rfl ?_); at_builtin; refine Kd.R_append k42 (w0 := w0) w0.heap.size rfl (.tmp 67) (.tmp 69) 26 42 (.agg #[(.int .i64 0), (.int .i64 0)]) 16 rfl Try.underlying26 info42 rfl (by decide) (by omega) u5 x5_1 (⟨a1_0, a1_1⟩ : S42) [.int .i64 a1_0, .int .i64 a1_1] (fun k_ => (P0_ k_ ∨ w.heap.size ≤ k_) ∧ some k_ ≠ (.slice Ao42 l0.length co42 : Value).ownBlock ∧ k_ ≠ gb103) (fun _ => False) rfl rfl ?aP (fun _ hk => hk.elim) ?aF ?aO ?aB ?aS ?aL ?_; (case aP => exact k42_mkM _ _ _ (⟨a1_0, a1_1⟩ : S42)); (case aB => exact (by repeat (with_reducible first | exact HB.out | apply bA_ | apply bN_ | apply b1_ | refine bS_ ?_ GE103.out))); (case aF => exact (fun k_ hk => ⟨(.inr (Nat.le_trans (by first | exact HK.out.1 | exact (show Kept w _ (fun k_ => P0_ k_) from by repeat (first | (with_reducible first | exact HK.out | apply Kept.alloc | apply Kept.drewN | apply Kept.drew | refine Kept.setCell ?_ (.inr GW103.out) _) | exact HK.out)).1) hk)), Kd.fresh' (Kd.R_lt (by (with_reducible repeat (first | apply Kd.R_alloc | apply Kd.R_drewN | apply Kd.R_drew)); exact HO_0.out)) k_ hk, Kd.freshB (g := gb103) (o := .cells #[.int .i64 a1_0, .int .i64 a1_1] 42 (0, 0)) (by (with_reducible repeat (first | refine kN_ ?_ _ | refine k1_ ?_ | refine kA_ ?_ _)); exact BK103.out) k_ hk⟩)); (case aO => exact (by (with_reducible repeat (first | apply Kd.R_alloc | apply Kd.R_drewN | apply Kd.R_drew)); exact HO_5.out)); (case aS => exact (bZ_ (by repeat (with_reducible first | exact HB.out | apply bA_ | apply bN_ | apply b1_ | refine bS_ ?_ GE103.out)))); (case aL => have := LMc41.out; omega); intro v108 w44 ho hb hg hat; rw [← Ny107.out] at ho; have n0_ := Ad_.mk (Kd.R_after (ok := (fun k_ => (P0_ k_ ∨ w.heap.size ≤ k_) ∧ k_ ≠ gb103)) (by (with_reducible repeat (first | apply Kd.R_alloc | apply Kd.R_drewN | apply Kd.R_drew)); exact Kd.R_mono HO_0.out (fun _ hk => ⟨⟨hk.1, hk.2.2⟩, hk.2.1⟩)) hg hat); have n1_ := Ad_.mk (blk_grown (g := gb103) (o := .cells #[.int .i64 a1_0, .int .i64 a1_1] 42 (0, 0)) (by (with_reducible repeat (first | refine kN_ ?_ _ | refine k1_ ?_ | refine kA_ ?_ _)); exact BK103.out) hg (Kd.R_away HO_5.out (fun _ hk => hk.2.2))); have n2_ := Ad_.mk (hb); have n3_ := Ad_.mk (Kept.of_grown (S := (fun k_ => P0_ k_)) hg (by repeat (first | (with_reducible first | exact HK.out | apply Kept.alloc | apply Kept.drewN | apply Kept.drew | refine Kept.setCell ?_ (.inr GW103.out) _) | exact HK.out)) (fun k_ e_ => (HO_5.out.1 k_ e_).1)); have n4_ := Ad_.mk (ho); clear HO_0; clear BK103; clear HB; clear HK; clear HO_5; have HO_0 := n0_; have BK103 := n1_; have HB := n2_; have HK := n3_; have HO109 := n4_; clear n0_ n1_ n2_ n3_ n4_; clear ho hb hg hat)))
       go_ret
       exact ⟨_, by first | rfl | (simp [errW_none, errW_some] <;> rfl) | (simp [*, errW_none, errW_some] <;> rfl), by (with_reducible repeat (first | apply Kd.R_alloc | apply Kd.R_drewN | apply Kd.R_drew)); exact Kd.R_mono HO109.out (fun _ hk => hk.1), by repeat (with_reducible first | exact HB.out | apply bA_ | apply bN_ | apply b1_ | refine bS_ ?_ GE103.out), by repeat (first | (with_reducible first | exact HK.out | apply Kept.alloc | apply Kept.drewN | apply Kept.drew | refine Kept.setCell ?_ (.inr GW103.out) _) | exact HK.out)⟩
      rw [if_pos c6] at H
      have c6b0 := decide_eq_true c6
      clear c6
      by_cases c7 : 0 ≤ x7_1
      rotate_left
      ·
       rw [if_neg c7] at H
       exact absurd H (by simp)
      rw [if_pos c7] at H
      have c7b0 := decide_eq_true c7
      clear c7
      by_cases c8 : (((rd_T42 l0 x7_1).f0) == a1_0 && (((rd_T42 l0 x7_1).f1) == a1_1)) = true
      ·
       rw [if_pos c8] at H
       have c8b0 : (((rd_T42 l0 x7_1).f0) == a1_0 && (((rd_T42 l0 x7_1).f1) == a1_1)) = true := c8
       (try (have c8b1 : decide (((rd_T42 l0 x7_1).f0) = a1_0 && (((rd_T42 l0 x7_1).f1) == a1_1)) = true := by simpa using c8))
       (try (have c8b2 : (((rd_T42 l0 x7_1).f0) == a1_0 && (((rd_T42 l0 x7_1).f1) == a1_1)) = true := by simpa using c8))
       clear c8
       obtain rfl := Option.some.inj H
       obtain ⟨Ao9, co9, eo9⟩ := Kd.R_slice HO_0.out
       subst eo9
       have p110 : 0 ≤ (x7_1 : Int) := od_
       have q110 : x7_1 < (l0.length : Int) := od_
       obtain ⟨ad110, e110, hx110_0, hx110_1⟩ := at_T42 (Kd.R_reads' HO_0.out).2.2 x7_1 p110 q110
       cases e110
       replace p110 := eq_true p110
       replace q110 := eq_true q110
       obtain ⟨hcz10_0, hcz10_1⟩ := cells2_ BK103.out
       obtain ⟨hfz10_0, hfz10_1⟩ := froz2_ BK103.out
       go_wp2
       repeat (go_quiet (fail); try go_wp2)
       go_ret
       exact ⟨_, by first | rfl | (simp [errW_none, errW_some] <;> rfl) | (simp [*, errW_none, errW_some] <;> rfl), by (with_reducible repeat (first | apply Kd.R_alloc | apply Kd.R_drewN | apply Kd.R_drew)); exact Kd.R_mono HO_0.out (fun _ hk => hk.1), by repeat (with_reducible first | exact HB.out | apply bA_ | apply bN_ | apply b1_ | refine bS_ ?_ GE103.out), by repeat (first | (with_reducible first | exact HK.out | apply Kept.alloc | apply Kept.drewN | apply Kept.drew | refine Kept.setCell ?_ (.inr GW103.out) _) | exact HK.out)⟩
      rw [if_neg c8] at H
      have c8b0 : (((rd_T42 l0 x7_1).f0) == a1_0 && (((rd_T42 l0 x7_1).f1) == a1_1)) = false := by simpa using c8
      (try (have c8b1 : decide (((rd_T42 l0 x7_1).f0) = a1_0 && (((rd_T42 l0 x7_1).f1) == a1_1)) = false := by simpa using c8))
      (try (have c8b2 : (((rd_T42 l0 x7_1).f0) == a1_0 && (((rd_T42 l0 x7_1).f1) == a1_1)) = false := by simpa using c8))
      (try (have c8b3 : ¬ (((rd_T42 l0 x7_1).f0) = a1_0 && (((rd_T42 l0 x7_1).f1) == a1_1)) := by simpa using c8))
      clear c8
      by_cases c11 : x6_1 = true
      ·
       subst c11
       have H1 := H
       rw [if_pos rfl] at H1
       clear H
       have H := H1
       clear H1
       by_cases c12 : x5_1.length < 8796093022208
       rotate_left
       ·
        rw [if_neg c12] at H
        exact absurd H (by simp)
       rw [if_pos c12] at H
       have LMc12 := Ad_.mk c12
       clear c12
       obtain ⟨y112, hy112⟩ : ∃ y_ : List (S42), y_ = (x5_1 ++ [(⟨(rd_T42 l0 x7_1).f0, (rd_T42 l0 x7_1).f1⟩ : S42)]) := ⟨_, rfl⟩
       replace H : (spec_l12Edge.l0 k1 l0 y112 true (wrap64 (x7_1 + 1)) a1_0 a1_1) = some r := by first | (rw [hy112]; with_reducible exact H) | (have H2_ := (Option.bind_some _ _).symm.trans H; rw [hy112]; with_reducible exact H2_) | (have H2_ := (Option.bind_some _ _).symm.trans H; with_reducible exact H2_) | with_reducible exact H | (rw [hy112]; exact H) | exact H
       have Ny112 := Ad_.mk hy112
       clear hy112
       have H' := Ad_.mk H
       clear H
       obtain ⟨Ao13, co13, eo13⟩ := Kd.R_slice HO_0.out
       subst eo13
       have p110 : 0 ≤ (x7_1 : Int) := od_
       have q110 : x7_1 < (l0.length : Int) := od_
       obtain ⟨ad110, e110, hx110_0, hx110_1⟩ := at_T42 (Kd.R_reads' HO_0.out).2.2 x7_1 p110 q110
       cases e110
       replace p110 := eq_true p110
       replace q110 := eq_true q110
       obtain ⟨hcz14_0, hcz14_1⟩ := cells2_ BK103.out
       obtain ⟨hfz14_0, hfz14_1⟩ := froz2_ BK103.out
       have p111 : 0 ≤ (x7_1 : Int) := od_
       have q111 : x7_1 < (l0.length : Int) := od_
       obtain ⟨ad111, e111, hx111_0, hx111_1⟩ := at_T42 (Kd.R_reads' HO_0.out).2.2 x7_1 p111 q111
       obtain rfl : ad110 = ad111 := (by injection e111)
       replace p111 := eq_true p111
       replace q111 := eq_true q111
       go_wp2_with (first | ((with_reducible refine gB_ (b := .append) (xs := #[.tmp 58, .tmp 63]) rfl ?_); at_builtin; refine Kd.R_append k42 (w0 := w0) w0.heap.size rfl (.tmp 58) (.tmp 63) 26 42 (.agg #[(.int .i64 0), (.int .i64 0)]) 16 rfl Try.underlying26 info42 rfl (by decide) (by omega) u5 x5_1 (⟨(rd_T42 l0 x7_1).f0, (rd_T42 l0 x7_1).f1⟩ : S42) [.int .i64 ((rd_T42 l0 x7_1).f0), .int .i64 ((rd_T42 l0 x7_1).f1)] (fun k_ => (P0_ k_ ∨ w.heap.size ≤ k_) ∧ some k_ ≠ (.slice (some ad110) l0.length co13 : Value).ownBlock ∧ k_ ≠ gb103) (fun _ => False) rfl rfl ?aP (fun _ hk => hk.elim) ?aF ?aO ?aB ?aS ?aL ?_; (case aP => exact k42_mkM _ _ _ (⟨(rd_T42 l0 x7_1).f0, (rd_T42 l0 x7_1).f1⟩ : S42)); (case aB => exact (by repeat (with_reducible first | exact HB.out | apply bA_ | apply bN_ | apply b1_ | refine bS_ ?_ GE103.out))); (case aF => exact (fun k_ hk => ⟨(.inr (Nat.le_trans (by first | exact HK.out.1 | exact (show Kept w _ (fun k_ => P0_ k_) from by repeat (first | (with_reducible first | exact HK.out | apply Kept.alloc | apply Kept.drewN | apply Kept.drew | refine Kept.setCell ?_ (.inr GW103.out) _) | exact HK.out)).1) hk)), Kd.fresh' (Kd.R_lt (by (with_reducible repeat (first | apply Kd.R_alloc | apply Kd.R_drewN | apply Kd.R_drew)); exact HO_0.out)) k_ hk, Kd.freshB (g := gb103) (o := .cells #[.int .i64 a1_0, .int .i64 a1_1] 42 (0, 0)) (by (with_reducible repeat (first | refine kN_ ?_ _ | refine k1_ ?_ | refine kA_ ?_ _)); exact BK103.out) k_ hk⟩)); (case aO => exact (by (with_reducible repeat (first | apply Kd.R_alloc | apply Kd.R_drewN | apply Kd.R_drew)); exact HO_5.out)); (case aS => exact (bZ_ (by repeat (with_reducible first | exact HB.out | apply bA_ | apply bN_ | apply b1_ | refine bS_ ?_ GE103.out)))); (case aL => have := LMc12.out; omega); intro v113 w15 ho hb hg hat; rw [← Ny112.out] at ho; have n0_ := Ad_.mk (Kd.R_after (ok := (fun k_ => (P0_ k_ ∨ w.heap.size ≤ k_) ∧ k_ ≠ gb103)) (by (with_reducible repeat (first | apply Kd.R_alloc | apply Kd.R_drewN | apply Kd.R_drew)); exact Kd.R_mono HO_0.out (fun _ hk => ⟨⟨hk.1, hk.2.2⟩, hk.2.1⟩)) hg hat); have n1_ := Ad_.mk (blk_grown (g := gb103) (o := .cells #[.int .i64 a1_0, .int .i64 a1_1] 42 (0, 0)) (by (with_reducible repeat (first | refine kN_ ?_ _ | refine k1_ ?_ | refine kA_ ?_ _)); exact BK103.out) hg (Kd.R_away HO_5.out (fun _ hk => hk.2.2))); have n2_ := Ad_.mk (hb); have n3_ := Ad_.mk (Kept.of_grown (S := (fun k_ => P0_ k_)) hg (by repeat (first | (with_reducible first | exact HK.out | apply Kept.alloc | apply Kept.drewN | apply Kept.drew | refine Kept.setCell ?_ (.inr GW103.out) _) | exact HK.out)) (fun k_ e_ => (HO_5.out.1 k_ e_).1)); have n4_ := Ad_.mk (ho); clear HO_0; clear BK103; clear HB; clear HK; clear HO_5; have HO_0 := n0_; have BK103 := n1_; have HB := n2_; have HK := n3_; have HO114 := n4_; clear n0_ n1_ n2_ n3_ n4_; clear ho hb hg hat))
       repeat (go_quiet (first | ((with_reducible refine gB_ (b := .append) (xs := #[.tmp 58, .tmp 63]) rfl ?_); at_builtin; refine Kd.R_append k42 (w0 := w0) w0.heap.size rfl (.tmp 58) (.tmp 63) 26 42 (.agg #[(.int .i64 0), (.int .i64 0)]) 16 rfl Try.underlying26 info42 rfl (by decide) (by omega) u5 x5_1 (⟨(rd_T42 l0 x7_1).f0, (rd_T42 l0 x7_1).f1⟩ : S42) [.int .i64 ((rd_T42 l0 x7_1).f0), .int .i64 ((rd_T42 l0 x7_1).f1)] (fun k_ => (P0_ k_ ∨ w.heap.size ≤ k_) ∧ some k_ ≠ (.slice (some ad110) l0.length co13 : Value).ownBlock ∧ k_ ≠ gb103) (fun _ => False) rfl rfl ?aP (fun _ hk => hk.elim) ?aF ?aO ?aB ?aS ?aL ?_; (case aP => exact k42_mkM _ _ _ (⟨(rd_T42 l0 x7_1).f0, (rd_T42 l0 x7_1).f1⟩ : S42)); (case aB => exact (by repeat (with_reducible first | exact HB.out | apply bA_ | apply bN_ | apply b1_ | refine bS_ ?_ GE103.out))); (case aF => exact (fun k_ hk => ⟨(.inr (Nat.le_trans (by first | exact HK.out.1 | exact (show Kept w _ (fun k_ => P0_ k_) from by repeat (first | (with_reducible first | exact HK.out | apply Kept.alloc | apply Kept.drewN | apply Kept.drew | refine Kept.setCell ?_ (.inr GW103.out) _) | exact HK.out)).1) hk)), Kd.fresh' (Kd.R_lt (by (with_reducible repeat (first | apply Kd.R_alloc | apply Kd.R_drewN | apply Kd.R_drew)); exact HO_0.out)) k_ hk, Kd.freshB (g := gb103) (o := .cells #[.int .i64 a1_0, .int .i64 a1_1] 42 (0, 0)) (by (with_reducible repeat (first | refine kN_ ?_ _ | refine k1_ ?_ | refine kA_ ?_ _)); exact BK103.out) k_ hk⟩)); (case aO => exact (by (with_reducible repeat (first | apply Kd.R_alloc | apply Kd.R_drewN | apply Kd.R_drew)); exact HO_5.out)); (case aS => exact (bZ_ (by repeat (with_reducible first | exact HB.out | apply bA_ | apply bN_ | apply b1_ | refine bS_ ?_ GE103.out)))); (case aL => have := LMc12.out; omega); intro v113 w15 ho hb hg hat; rw [← Ny112.out] at ho; have n0_ := Ad_.mk (Kd.R_after (ok := (fun k_ => (P0_ k_ ∨ w.heap.size ≤ k_) ∧ k_ ≠ gb103)) (by (with_reducible repeat (first | apply Kd.R_alloc | apply Kd.R_drewN | apply Kd.R_drew)); exact Kd.R_mono HO_0.out (fun _ hk => ⟨⟨hk.1, hk.2.2⟩, hk.2.1⟩)) hg hat); have n1_ := Ad_.mk (blk_grown (g := gb103) (o := .cells #[.int .i64 a1_0, .int .i64 a1_1] 42 (0, 0)) (by (with_reducible repeat (first | refine kN_ ?_ _ | refine k1_ ?_ | refine kA_ ?_ _)); exact BK103.out) hg (Kd.R_away HO_5.out (fun _ hk => hk.2.2))); have n2_ := Ad_.mk (hb); have n3_ := Ad_.mk (Kept.of_grown (S := (fun k_ => P0_ k_)) hg (by repeat (first | (with_reducible first | exact HK.out | apply Kept.alloc | apply Kept.drewN | apply Kept.drew | refine Kept.setCell ?_ (.inr GW103.out) _) | exact HK.out)) (fun k_ e_ => (HO_5.out.1 k_ e_).1)); have n4_ := Ad_.mk (ho); clear HO_0; clear BK103; clear HB; clear HK; clear HO_5; have HO_0 := n0_; have BK103 := n1_; have HB := n2_; have HK := n3_; have HO114 := n4_; clear n0_ n1_ n2_ n3_ n4_; clear ho hb hg hat)); try go_wp2_with (first | ((with_reducible refine gB_ (b := .append) (xs := #[.tmp 58, .tmp 63]) rfl ?_); at_builtin; refine Kd.R_append k42 (w0 := w0) w0.heap.size rfl (.tmp 58) (.tmp 63) 26 42 (.agg #[(.int .i64 0), (.int .i64 0)]) 16 rfl Try.underlying26 info42 rfl (by decide) (by omega) u5 x5_1 (⟨(rd_T42 l0 x7_1).f0, (rd_T42 l0 x7_1).f1⟩ : S42) [.int .i64 ((rd_T42 l0 x7_1).f0), .int .i64 ((rd_T42 l0 x7_1).f1)] (fun k_ => (P0_ k_ ∨ w.heap.size ≤ k_) ∧ some k_ ≠ (.slice (some ad110) l0.length co13 : Value).ownBlock ∧ k_ ≠ gb103) (fun _ => False) rfl rfl ?aP (fun _ hk => hk.elim) ?aF ?aO ?aB ?aS ?aL ?_; (case aP => exact k42_mkM _ _ _ (⟨(rd_T42 l0 x7_1).f0, (rd_T42 l0 x7_1).f1⟩ : S42)); (case aB => exact (by repeat (with_reducible first | exact HB.out | apply bA_ | apply bN_ | apply b1_ | refine bS_ ?_ GE103.out))); (case aF => exact (fun k_ hk => ⟨(.inr (Nat.le_trans (by first | exact HK.out.1 | exact (show Kept w _ (fun k_ => P0_ k_) from by repeat (first | (with_reducible first | exact HK.out | apply Kept.alloc | apply Kept.drewN | apply Kept.drew | refine Kept.setCell ?_ (.inr GW103.out) _) | exact HK.out)).1) hk)), Kd.fresh' (Kd.R_lt (by (with_reducible repeat (first | apply Kd.R_alloc | apply Kd.R_drewN | apply Kd.R_drew)); exact HO_0.out)) k_ hk, Kd.freshB (g := gb103) (o := .cells #[.int .i64 a1_0, .int .i64 a1_1] 42 (0, 0)) (by (with_reducible repeat (first | refine kN_ ?_ _ | refine k1_ ?_ | refine kA_ ?_ _)); exact BK103.out) k_ hk⟩)); (case aO => exact (by (with_reducible repeat (first | apply Kd.R_alloc | apply Kd.R_drewN | apply Kd.R_drew)); exact HO_5.out)); (case aS => exact (bZ_ (by repeat (with_reducible first | exact HB.out | apply bA_ | apply bN_ | apply b1_ | refine bS_ ?_ GE103.out)))); (case aL => have := LMc12.out; omega); intro v113 w15 ho hb hg hat; rw [← Ny112.out] at ho; have n0_ := Ad_.mk (Kd.R_after (ok := (fun k_ => (P0_ k_ ∨ w.heap.size ≤ k_) ∧ k_ ≠ gb103)) (by (with_reducible repeat (first | apply Kd.R_alloc | apply Kd.R_drewN | apply Kd.R_drew)); exact Kd.R_mono HO_0.out (fun _ hk => ⟨⟨hk.1, hk.2.2⟩, hk.2.1⟩)) hg hat); have n1_ := Ad_.mk (blk_grown (g := gb103) (o := .cells #[.int .i64 a1_0, .int .i64 a1_1] 42 (0, 0)) (by (with_reducible repeat (first | refine kN_ ?_ _ | refine k1_ ?_ | refine kA_ ?_ _)); exact BK103.out) hg (Kd.R_away HO_5.out (fun _ hk => hk.2.2))); have n2_ := Ad_.mk (hb); have n3_ := Ad_.mk (Kept.of_grown (S := (fun k_ => P0_ k_)) hg (by repeat (first | (with_reducible first | exact HK.out | apply Kept.alloc | apply Kept.drewN | apply Kept.drew | refine Kept.setCell ?_ (.inr GW103.out) _) | exact HK.out)) (fun k_ e_ => (HO_5.out.1 k_ e_).1)); have n4_ := Ad_.mk (ho); clear HO_0; clear BK103; clear HB; clear HK; clear HO_5; have HO_0 := n0_; have BK103 := n1_; have HB := n2_; have HK := n3_; have HO114 := n4_; clear n0_ n1_ n2_ n3_ n4_; clear ho hb hg hat)))
       go_roundg k1
       case measure => have := HK1.out; omega
       case rel => exact ⟨(y112), (true), (wrap64 (x7_1 + 1)), fs_, fs_, H', ⟨by have := HK1.out; omega⟩, ⟨by (with_reducible repeat (first | apply Kd.R_alloc | apply Kd.R_drewN | apply Kd.R_drew)); exact Kd.R_mono HO_0.out (fun _ hk => ⟨hk.1.1, ⟨hk.2, hk.1.2⟩⟩)⟩, ⟨by (with_reducible repeat (first | apply Kd.R_alloc | apply Kd.R_drewN | apply Kd.R_drew)); exact HO114.out⟩, ⟨by (with_reducible repeat (first | refine kN_ ?_ _ | refine k1_ ?_ | refine kA_ ?_ _)); exact BK103.out⟩, ⟨by repeat (first | (with_reducible first | exact HK.out | apply Kept.alloc | apply Kept.drewN | apply Kept.drew | refine Kept.setCell ?_ (.inr GW103.out) _) | exact HK.out)⟩, ⟨by repeat (with_reducible first | exact HB.out | apply bA_ | apply bN_ | apply b1_ | refine bS_ ?_ GE103.out)⟩⟩
      replace c11 := Bool.eq_false_iff.mpr c11
      subst c11
      have H1 : (if ((rd_T42 l0 x7_1).f0) > a1_0 then (if x5_1.length < 8796093022208 then ((some (x5_1 ++ [(⟨a1_0, a1_1⟩ : S42)] : List (S42))).bind fun y116 => (if y116.length < 8796093022208 then (spec_l12Edge.l0 k1 l0 (y116 ++ [(⟨(rd_T42 l0 x7_1).f0, (rd_T42 l0 x7_1).f1⟩ : S42)]) true (wrap64 (x7_1 + 1)) a1_0 a1_1) else (none))) else (none)) else (if ((rd_T42 l0 x7_1).f0) = a1_0 then (if ((rd_T42 l0 x7_1).f1) > a1_1 then (if x5_1.length < 8796093022208 then ((some (x5_1 ++ [(⟨a1_0, a1_1⟩ : S42)] : List (S42))).bind fun y125 => (if y125.length < 8796093022208 then (spec_l12Edge.l0 k1 l0 (y125 ++ [(⟨(rd_T42 l0 x7_1).f0, (rd_T42 l0 x7_1).f1⟩ : S42)]) true (wrap64 (x7_1 + 1)) a1_0 a1_1) else (none))) else (none)) else (if x5_1.length < 8796093022208 then (spec_l12Edge.l0 k1 l0 (x5_1 ++ [(⟨(rd_T42 l0 x7_1).f0, (rd_T42 l0 x7_1).f1⟩ : S42)]) false (wrap64 (x7_1 + 1)) a1_0 a1_1) else (none))) else (if x5_1.length < 8796093022208 then (spec_l12Edge.l0 k1 l0 (x5_1 ++ [(⟨(rd_T42 l0 x7_1).f0, (rd_T42 l0 x7_1).f1⟩ : S42)]) false (wrap64 (x7_1 + 1)) a1_0 a1_1) else (none)))) = some r := by rw [if_neg (show ¬ (false = true) by decide)] at H; exact H
      clear H
      have H := H1
      clear H1
      by_cases c16 : ((rd_T42 l0 x7_1).f0) > a1_0
      ·
       rw [if_pos c16] at H
       have c16b0 := decide_eq_true c16
       clear c16
       by_cases c17 : x5_1.length < 8796093022208
       rotate_left
       ·
        rw [if_neg c17] at H
        exact absurd H (by simp)
       rw [if_pos c17] at H
       have LMc17 := Ad_.mk c17
       clear c17
       obtain ⟨y116, hy116⟩ : ∃ y_ : List (S42), y_ = (x5_1 ++ [(⟨a1_0, a1_1⟩ : S42)]) := ⟨_, rfl⟩
       replace H : (if y116.length < 8796093022208 then (spec_l12Edge.l0 k1 l0 (y116 ++ [(⟨(rd_T42 l0 x7_1).f0, (rd_T42 l0 x7_1).f1⟩ : S42)]) true (wrap64 (x7_1 + 1)) a1_0 a1_1) else (none)) = some r := by first | (rw [hy116]; with_reducible exact H) | (have H2_ := (Option.bind_some _ _).symm.trans H; rw [hy116]; with_reducible exact H2_) | (have H2_ := (Option.bind_some _ _).symm.trans H; with_reducible exact H2_) | with_reducible exact H | (rw [hy116]; exact H) | exact H
       have Ny116 := Ad_.mk hy116
       clear hy116
       by_cases c18 : y116.length < 8796093022208
       rotate_left
       ·
        rw [if_neg c18] at H
        exact absurd H (by simp)
       rw [if_pos c18] at H
       have LMc18 := Ad_.mk c18
       clear c18
       obtain ⟨y120, hy120⟩ : ∃ y_ : List (S42), y_ = (y116 ++ [(⟨(rd_T42 l0 x7_1).f0, (rd_T42 l0 x7_1).f1⟩ : S42)]) := ⟨_, rfl⟩
       replace H : (spec_l12Edge.l0 k1 l0 y120 true (wrap64 (x7_1 + 1)) a1_0 a1_1) = some r := by first | (rw [hy120]; with_reducible exact H) | (have H2_ := (Option.bind_some _ _).symm.trans H; rw [hy120]; with_reducible exact H2_) | (have H2_ := (Option.bind_some _ _).symm.trans H; with_reducible exact H2_) | with_reducible exact H | (rw [hy120]; exact H) | exact H
       have Ny120 := Ad_.mk hy120
       clear hy120
       have H' := Ad_.mk H
       clear H
       obtain ⟨Ao19, co19, eo19⟩ := Kd.R_slice HO_0.out
       subst eo19
       have p110 : 0 ≤ (x7_1 : Int) := od_
       have q110 : x7_1 < (l0.length : Int) := od_
       obtain ⟨ad110, e110, hx110_0, hx110_1⟩ := at_T42 (Kd.R_reads' HO_0.out).2.2 x7_1 p110 q110
       cases e110
       replace p110 := eq_true p110
       replace q110 := eq_true q110
       obtain ⟨hcz20_0, hcz20_1⟩ := cells2_ BK103.out
       obtain ⟨hfz20_0, hfz20_1⟩ := froz2_ BK103.out
       have p115 : 0 ≤ (x7_1 : Int) := od_
       have q115 : x7_1 < (l0.length : Int) := od_
       obtain ⟨ad115, e115, hx115_0, hx115_1⟩ := at_T42 (Kd.R_reads' HO_0.out).2.2 x7_1 p115 q115
       obtain rfl : ad110 = ad115 := (by injection e115)
       replace p115 := eq_true p115
       replace q115 := eq_true q115
       go_wp2_with (first | ((with_reducible refine gB_ (b := .append) (xs := #[.tmp 54, .tmp 56]) rfl ?_); at_builtin; refine Kd.R_append k42 (w0 := w0) w0.heap.size rfl (.tmp 54) (.tmp 56) 26 42 (.agg #[(.int .i64 0), (.int .i64 0)]) 16 rfl Try.underlying26 info42 rfl (by decide) (by omega) u5 x5_1 (⟨a1_0, a1_1⟩ : S42) [.int .i64 a1_0, .int .i64 a1_1] (fun k_ => (P0_ k_ ∨ w.heap.size ≤ k_) ∧ some k_ ≠ (.slice (some ad110) l0.length co19 : Value).ownBlock ∧ k_ ≠ gb103) (fun _ => False) rfl rfl ?aP (fun _ hk => hk.elim) ?aF ?aO ?aB ?aS ?aL ?_; (case aP => exact k42_mkM _ _ _ (⟨a1_0, a1_1⟩ : S42)); (case aB => exact (by repeat (with_reducible first | exact HB.out | apply bA_ | apply bN_ | apply b1_ | refine bS_ ?_ GE103.out))); (case aF => exact (fun k_ hk => ⟨(.inr (Nat.le_trans (by first | exact HK.out.1 | exact (show Kept w _ (fun k_ => P0_ k_) from by repeat (first | (with_reducible first | exact HK.out | apply Kept.alloc | apply Kept.drewN | apply Kept.drew | refine Kept.setCell ?_ (.inr GW103.out) _) | exact HK.out)).1) hk)), Kd.fresh' (Kd.R_lt (by (with_reducible repeat (first | apply Kd.R_alloc | apply Kd.R_drewN | apply Kd.R_drew)); exact HO_0.out)) k_ hk, Kd.freshB (g := gb103) (o := .cells #[.int .i64 a1_0, .int .i64 a1_1] 42 (0, 0)) (by (with_reducible repeat (first | refine kN_ ?_ _ | refine k1_ ?_ | refine kA_ ?_ _)); exact BK103.out) k_ hk⟩)); (case aO => exact (by (with_reducible repeat (first | apply Kd.R_alloc | apply Kd.R_drewN | apply Kd.R_drew)); exact HO_5.out)); (case aS => exact (bZ_ (by repeat (with_reducible first | exact HB.out | apply bA_ | apply bN_ | apply b1_ | refine bS_ ?_ GE103.out)))); (case aL => have := LMc17.out; omega); intro v117 w21 ho hb hg hat; rw [← Ny116.out] at ho; have n0_ := Ad_.mk (Kd.R_after (ok := (fun k_ => (P0_ k_ ∨ w.heap.size ≤ k_) ∧ k_ ≠ gb103)) (by (with_reducible repeat (first | apply Kd.R_alloc | apply Kd.R_drewN | apply Kd.R_drew)); exact Kd.R_mono HO_0.out (fun _ hk => ⟨⟨hk.1, hk.2.2⟩, hk.2.1⟩)) hg hat); have n1_ := Ad_.mk (blk_grown (g := gb103) (o := .cells #[.int .i64 a1_0, .int .i64 a1_1] 42 (0, 0)) (by (with_reducible repeat (first | refine kN_ ?_ _ | refine k1_ ?_ | refine kA_ ?_ _)); exact BK103.out) hg (Kd.R_away HO_5.out (fun _ hk => hk.2.2))); have n2_ := Ad_.mk (hb); have n3_ := Ad_.mk (Kept.of_grown (S := (fun k_ => P0_ k_)) hg (by repeat (first | (with_reducible first | exact HK.out | apply Kept.alloc | apply Kept.drewN | apply Kept.drew | refine Kept.setCell ?_ (.inr GW103.out) _) | exact HK.out)) (fun k_ e_ => (HO_5.out.1 k_ e_).1)); have n4_ := Ad_.mk (ho); clear HO_0; clear BK103; clear HB; clear HK; clear HO_5; have HO_0 := n0_; have BK103 := n1_; have HB := n2_; have HK := n3_; have HO118 := n4_; clear n0_ n1_ n2_ n3_ n4_; clear ho hb hg hat; have p119 : 0 ≤ (x7_1 : Int) := od_; have q119 : x7_1 < (l0.length : Int) := od_; obtain ⟨ad119, e119, hx119_0, hx119_1⟩ := at_T42 (Kd.R_reads' HO_0.out).2.2 x7_1 p119 q119; obtain rfl : ad110 = ad119 := (by injection e119); replace p119 := eq_true p119; replace q119 := eq_true q119) | ((with_reducible refine gB_ (b := .append) (xs := #[.tmp 58, .tmp 63]) rfl ?_); at_builtin; refine Kd.R_append k42 (w0 := w0) w0.heap.size rfl (.tmp 58) (.tmp 63) 26 42 (.agg #[(.int .i64 0), (.int .i64 0)]) 16 rfl Try.underlying26 info42 rfl (by decide) (by omega) v117 y116 (⟨(rd_T42 l0 x7_1).f0, (rd_T42 l0 x7_1).f1⟩ : S42) [.int .i64 ((rd_T42 l0 x7_1).f0), .int .i64 ((rd_T42 l0 x7_1).f1)] (fun k_ => (P0_ k_ ∨ w.heap.size ≤ k_) ∧ some k_ ≠ (.slice (some ad110) l0.length co19 : Value).ownBlock ∧ k_ ≠ gb103) (fun _ => False) rfl rfl ?aP (fun _ hk => hk.elim) ?aF ?aO ?aB ?aS ?aL ?_; (case aP => exact k42_mkM _ _ _ (⟨(rd_T42 l0 x7_1).f0, (rd_T42 l0 x7_1).f1⟩ : S42)); (case aB => exact (by repeat (with_reducible first | exact HB.out | apply bA_ | apply bN_ | apply b1_ | refine bS_ ?_ GE103.out))); (case aF => exact (fun k_ hk => ⟨(.inr (Nat.le_trans (by first | exact HK.out.1 | exact (show Kept w _ (fun k_ => P0_ k_) from by repeat (first | (with_reducible first | exact HK.out | apply Kept.alloc | apply Kept.drewN | apply Kept.drew | refine Kept.setCell ?_ (.inr GW103.out) _) | exact HK.out)).1) hk)), Kd.fresh' (Kd.R_lt (by (with_reducible repeat (first | apply Kd.R_alloc | apply Kd.R_drewN | apply Kd.R_drew)); exact HO_0.out)) k_ hk, Kd.freshB (g := gb103) (o := .cells #[.int .i64 a1_0, .int .i64 a1_1] 42 (0, 0)) (by (with_reducible repeat (first | refine kN_ ?_ _ | refine k1_ ?_ | refine kA_ ?_ _)); exact BK103.out) k_ hk⟩)); (case aO => exact (by (with_reducible repeat (first | apply Kd.R_alloc | apply Kd.R_drewN | apply Kd.R_drew)); exact HO118.out)); (case aS => exact (bZ_ (by repeat (with_reducible first | exact HB.out | apply bA_ | apply bN_ | apply b1_ | refine bS_ ?_ GE103.out)))); (case aL => have := LMc18.out; omega); intro v121 w22 ho hb hg hat; rw [← Ny120.out] at ho; have n0_ := Ad_.mk (Kd.R_after (ok := (fun k_ => (P0_ k_ ∨ w.heap.size ≤ k_) ∧ k_ ≠ gb103)) (by (with_reducible repeat (first | apply Kd.R_alloc | apply Kd.R_drewN | apply Kd.R_drew)); exact HO_0.out) hg hat); have n1_ := Ad_.mk (blk_grown (g := gb103) (o := .cells #[.int .i64 a1_0, .int .i64 a1_1] 42 (0, 0)) (by (with_reducible repeat (first | refine kN_ ?_ _ | refine k1_ ?_ | refine kA_ ?_ _)); exact BK103.out) hg (Kd.R_away HO118.out (fun _ hk => hk.2.2))); have n2_ := Ad_.mk (hb); have n3_ := Ad_.mk (Kept.of_grown (S := (fun k_ => P0_ k_)) hg (by repeat (first | (with_reducible first | exact HK.out | apply Kept.alloc | apply Kept.drewN | apply Kept.drew | refine Kept.setCell ?_ (.inr GW103.out) _) | exact HK.out)) (fun k_ e_ => (HO118.out.1 k_ e_).1)); have n4_ := Ad_.mk (ho); clear HO_0; clear BK103; clear HB; clear HK; clear HO118; have HO_0 := n0_; have BK103 := n1_; have HB := n2_; have HK := n3_; have HO122 := n4_; clear n0_ n1_ n2_ n3_ n4_; clear ho hb hg hat))
       repeat (go_quiet (first | ((with_reducible refine gB_ (b := .append) (xs := #[.tmp 54, .tmp 56]) rfl ?_); at_builtin; refine Kd.R_append k42 (w0 := w0) w0.heap.size rfl (.tmp 54) (.tmp 56) 26 42 (.agg #[(.int .i64 0), (.int .i64 0)]) 16 rfl Try.underlying26 info42 rfl (by decide) (by omega) u5 x5_1 (⟨a1_0, a1_1⟩ : S42) [.int .i64 a1_0, .int .i64 a1_1] (fun k_ => (P0_ k_ ∨ w.heap.size ≤ k_) ∧ some k_ ≠ (.slice (some ad110) l0.length co19 : Value).ownBlock ∧ k_ ≠ gb103) (fun _ => False) rfl rfl ?aP (fun _ hk => hk.elim) ?aF ?aO ?aB ?aS ?aL ?_; (case aP => exact k42_mkM _ _ _ (⟨a1_0, a1_1⟩ : S42)); (case aB => exact (by repeat (with_reducible first | exact HB.out | apply bA_ | apply bN_ | apply b1_ | refine bS_ ?_ GE103.out))); (case aF => exact (fun k_ hk => ⟨(.inr (Nat.le_trans (by first | exact HK.out.1 | exact (show Kept w _ (fun k_ => P0_ k_) from by repeat (first | (with_reducible first | exact HK.out | apply Kept.alloc | apply Kept.drewN | apply Kept.drew | refine Kept.setCell ?_ (.inr GW103.out) _) | exact HK.out)).1) hk)), Kd.fresh' (Kd.R_lt (by (with_reducible repeat (first | apply Kd.R_alloc | apply Kd.R_drewN | apply Kd.R_drew)); exact HO_0.out)) k_ hk, Kd.freshB (g := gb103) (o := .cells #[.int .i64 a1_0, .int .i64 a1_1] 42 (0, 0)) (by (with_reducible repeat (first | refine kN_ ?_ _ | refine k1_ ?_ | refine kA_ ?_ _)); exact BK103.out) k_ hk⟩)); (case aO => exact (by (with_reducible repeat (first | apply Kd.R_alloc | apply Kd.R_drewN | apply Kd.R_drew)); exact HO_5.out)); (case aS => exact (bZ_ (by repeat (with_reducible first | exact HB.out | apply bA_ | apply bN_ | apply b1_ | refine bS_ ?_ GE103.out)))); (case aL => have := LMc17.out; omega); intro v117 w21 ho hb hg hat; rw [← Ny116.out] at ho; have n0_ := Ad_.mk (Kd.R_after (ok := (fun k_ => (P0_ k_ ∨ w.heap.size ≤ k_) ∧ k_ ≠ gb103)) (by (with_reducible repeat (first | apply Kd.R_alloc | apply Kd.R_drewN | apply Kd.R_drew)); exact Kd.R_mono HO_0.out (fun _ hk => ⟨⟨hk.1, hk.2.2⟩, hk.2.1⟩)) hg hat); have n1_ := Ad_.mk (blk_grown (g := gb103) (o := .cells #[.int .i64 a1_0, .int .i64 a1_1] 42 (0, 0)) (by (with_reducible repeat (first | refine kN_ ?_ _ | refine k1_ ?_ | refine kA_ ?_ _)); exact BK103.out) hg (Kd.R_away HO_5.out (fun _ hk => hk.2.2))); have n2_ := Ad_.mk (hb); have n3_ := Ad_.mk (Kept.of_grown (S := (fun k_ => P0_ k_)) hg (by repeat (first | (with_reducible first | exact HK.out | apply Kept.alloc | apply Kept.drewN | apply Kept.drew | refine Kept.setCell ?_ (.inr GW103.out) _) | exact HK.out)) (fun k_ e_ => (HO_5.out.1 k_ e_).1)); have n4_ := Ad_.mk (ho); clear HO_0; clear BK103; clear HB; clear HK; clear HO_5; have HO_0 := n0_; have BK103 := n1_; have HB := n2_; have HK := n3_; have HO118 := n4_; clear n0_ n1_ n2_ n3_ n4_; clear ho hb hg hat; have p119 : 0 ≤ (x7_1 : Int) := od_; have q119 : x7_1 < (l0.length : Int) := od_; obtain ⟨ad119, e119, hx119_0, hx119_1⟩ := at_T42 (Kd.R_reads' HO_0.out).2.2 x7_1 p119 q119; obtain rfl : ad110 = ad119 := (by injection e119); replace p119 := eq_true p119; replace q119 := eq_true q119) | ((with_reducible refine gB_ (b := .append) (xs := #[.tmp 58, .tmp 63]) rfl ?_); at_builtin; refine Kd.R_append k42 (w0 := w0) w0.heap.size rfl (.tmp 58) (.tmp 63) 26 42 (.agg #[(.int .i64 0), (.int .i64 0)]) 16 rfl Try.underlying26 info42 rfl (by decide) (by omega) v117 y116 (⟨(rd_T42 l0 x7_1).f0, (rd_T42 l0 x7_1).f1⟩ : S42) [.int .i64 ((rd_T42 l0 x7_1).f0), .int .i64 ((rd_T42 l0 x7_1).f1)] (fun k_ => (P0_ k_ ∨ w.heap.size ≤ k_) ∧ some k_ ≠ (.slice (some ad110) l0.length co19 : Value).ownBlock ∧ k_ ≠ gb103) (fun _ => False) rfl rfl ?aP (fun _ hk => hk.elim) ?aF ?aO ?aB ?aS ?aL ?_; (case aP => exact k42_mkM _ _ _ (⟨(rd_T42 l0 x7_1).f0, (rd_T42 l0 x7_1).f1⟩ : S42)); (case aB => exact (by repeat (with_reducible first | exact HB.out | apply bA_ | apply bN_ | apply b1_ | refine bS_ ?_ GE103.out))); (case aF => exact (fun k_ hk => ⟨(.inr (Nat.le_trans (by first | exact HK.out.1 | exact (show Kept w _ (fun k_ => P0_ k_) from by repeat (first | (with_reducible first | exact HK.out | apply Kept.alloc | apply Kept.drewN | apply Kept.drew | refine Kept.setCell ?_ (.inr GW103.out) _) | exact HK.out)).1) hk)), Kd.fresh' (Kd.R_lt (by (with_reducible repeat (first | apply Kd.R_alloc | apply Kd.R_drewN | apply Kd.R_drew)); exact HO_0.out)) k_ hk, Kd.freshB (g := gb103) (o := .cells #[.int .i64 a1_0, .int .i64 a1_1] 42 (0, 0)) (by (with_reducible repeat (first | refine kN_ ?_ _ | refine k1_ ?_ | refine kA_ ?_ _)); exact BK103.out) k_ hk⟩)); (case aO => exact (by (with_reducible repeat (first | apply Kd.R_alloc | apply Kd.R_drewN | apply Kd.R_drew)); exact HO118.out)); (case aS => exact (bZ_ (by repeat (with_reducible first | exact HB.out | apply bA_ | apply bN_ | apply b1_ | refine bS_ ?_ GE103.out)))); (case aL => have := LMc18.out; omega); intro v121 w22 ho hb hg hat; rw [← Ny120.out] at ho; have n0_ := Ad_.mk (Kd.R_after (ok := (fun k_ => (P0_ k_ ∨ w.heap.size ≤ k_) ∧ k_ ≠ gb103)) (by (with_reducible repeat (first | apply Kd.R_alloc | apply Kd.R_drewN | apply Kd.R_drew)); exact HO_0.out) hg hat); have n1_ := Ad_.mk (blk_grown (g := gb103) (o := .cells #[.int .i64 a1_0, .int .i64 a1_1] 42 (0, 0)) (by (with_reducible repeat (first | refine kN_ ?_ _ | refine k1_ ?_ | refine kA_ ?_ _)); exact BK103.out) hg (Kd.R_away HO118.out (fun _ hk => hk.2.2))); have n2_ := Ad_.mk (hb); have n3_ := Ad_.mk (Kept.of_grown (S := (fun k_ => P0_ k_)) hg (by repeat (first | (with_reducible first | exact HK.out | apply Kept.alloc | apply Kept.drewN | apply Kept.drew | refine Kept.setCell ?_ (.inr GW103.out) _) | exact HK.out)) (fun k_ e_ => (HO118.out.1 k_ e_).1)); have n4_ := Ad_.mk (ho); clear HO_0; clear BK103; clear HB; clear HK; clear HO118; have HO_0 := n0_; have BK103 := n1_; have HB := n2_; have HK := n3_; have HO122 := n4_; clear n0_ n1_ n2_ n3_ n4_; clear ho hb hg hat)); try go_wp2_with (first | ((with_reducible refine gB_ (b := .append) (xs := #[.tmp 54, .tmp 56]) rfl ?_); at_builtin; refine Kd.R_append k42 (w0 := w0) w0.heap.size rfl (.tmp 54) (.tmp 56) 26 42 (.agg #[(.int .i64 0), (.int .i64 0)]) 16 rfl Try.underlying26 info42 rfl (by decide) (by omega) u5 x5_1 (⟨a1_0, a1_1⟩ : S42) [.int .i64 a1_0, .int .i64 a1_1] (fun k_ => (P0_ k_ ∨ w.heap.size ≤ k_) ∧ some k_ ≠ (.slice (some ad110) l0.length co19 : Value).ownBlock ∧ k_ ≠ gb103) (fun _ => False) rfl rfl ?aP (fun _ hk => hk.elim) ?aF ?aO ?aB ?aS ?aL ?_; (case aP => exact k42_mkM _ _ _ (⟨a1_0, a1_1⟩ : S42)); (case aB => exact (by repeat (with_reducible first | exact HB.out | apply bA_ | apply bN_ | apply b1_ | refine bS_ ?_ GE103.out))); (case aF => exact (fun k_ hk => ⟨(.inr (Nat.le_trans (by first | exact HK.out.1 | exact (show Kept w _ (fun k_ => P0_ k_) from by repeat (first | (with_reducible first | exact HK.out | apply Kept.alloc | apply Kept.drewN | apply Kept.drew | refine Kept.setCell ?_ (.inr GW103.out) _) | exact HK.out)).1) hk)), Kd.fresh' (Kd.R_lt (by (with_reducible repeat (first | apply Kd.R_alloc | apply Kd.R_drewN | apply Kd.R_drew)); exact HO_0.out)) k_ hk, Kd.freshB (g := gb103) (o := .cells #[.int .i64 a1_0, .int .i64 a1_1] 42 (0, 0)) (by (with_reducible repeat (first | refine kN_ ?_ _ | refine k1_ ?_ | refine kA_ ?_ _)); exact BK103.out) k_ hk⟩)); (case aO => exact (by (with_reducible repeat (first | apply Kd.R_alloc | apply Kd.R_drewN | apply Kd.R_drew)); exact HO_5.out)); (case aS => exact (bZ_ (by repeat (with_reducible first | exact HB.out | apply bA_ | apply bN_ | apply b1_ | refine bS_ ?_ GE103.out)))); (case aL => have := LMc17.out; omega); intro v117 w21 ho hb hg hat; rw [← Ny116.out] at ho; have n0_ := Ad_.mk (Kd.R_after (ok := (fun k_ => (P0_ k_ ∨ w.heap.size ≤ k_) ∧ k_ ≠ gb103)) (by (with_reducible repeat (first | apply Kd.R_alloc | apply Kd.R_drewN | apply Kd.R_drew)); exact Kd.R_mono HO_0.out (fun _ hk => ⟨⟨hk.1, hk.2.2⟩, hk.2.1⟩)) hg hat); have n1_ := Ad_.mk (blk_grown (g := gb103) (o := .cells #[.int .i64 a1_0, .int .i64 a1_1] 42 (0, 0)) (by (with_reducible repeat (first | refine kN_ ?_ _ | refine k1_ ?_ | refine kA_ ?_ _)); exact BK103.out) hg (Kd.R_away HO_5.out (fun _ hk => hk.2.2))); have n2_ := Ad_.mk (hb); have n3_ := Ad_.mk (Kept.of_grown (S := (fun k_ => P0_ k_)) hg (by repeat (first | (with_reducible first | exact HK.out | apply Kept.alloc | apply Kept.drewN | apply Kept.drew | refine Kept.setCell ?_ (.inr GW103.out) _) | exact HK.out)) (fun k_ e_ => (HO_5.out.1 k_ e_).1)); have n4_ := Ad_.mk (ho); clear HO_0; clear BK103; clear HB; clear HK; clear HO_5; have HO_0 := n0_; have BK103 := n1_; have HB := n2_; have HK := n3_; have HO118 := n4_; clear n0_ n1_ n2_ n3_ n4_; clear ho hb hg hat; have p119 : 0 ≤ (x7_1 : Int) := od_; have q119 : x7_1 < (l0.length : Int) := od_; obtain ⟨ad119, e119, hx119_0, hx119_1⟩ := at_T42 (Kd.R_reads' HO_0.out).2.2 x7_1 p119 q119; obtain rfl : ad110 = ad119 := (by injection e119); replace p119 := eq_true p119; replace q119 := eq_true q119) | ((with_reducible refine gB_ (b := .append) (xs := #[.tmp 58, .tmp 63]) rfl ?_); at_builtin; refine Kd.R_append k42 (w0 := w0) w0.heap.size rfl (.tmp 58) (.tmp 63) 26 42 (.agg #[(.int .i64 0), (.int .i64 0)]) 16 rfl Try.underlying26 info42 rfl (by decide) (by omega) v117 y116 (⟨(rd_T42 l0 x7_1).f0, (rd_T42 l0 x7_1).f1⟩ : S42) [.int .i64 ((rd_T42 l0 x7_1).f0), .int .i64 ((rd_T42 l0 x7_1).f1)] (fun k_ => (P0_ k_ ∨ w.heap.size ≤ k_) ∧ some k_ ≠ (.slice (some ad110) l0.length co19 : Value).ownBlock ∧ k_ ≠ gb103) (fun _ => False) rfl rfl ?aP (fun _ hk => hk.elim) ?aF ?aO ?aB ?aS ?aL ?_; (case aP => exact k42_mkM _ _ _ (⟨(rd_T42 l0 x7_1).f0, (rd_T42 l0 x7_1).f1⟩ : S42)); (case aB => exact (by repeat (with_reducible first | exact HB.out | apply bA_ | apply bN_ | apply b1_ | refine bS_ ?_ GE103.out))); (case aF => exact (fun k_ hk => ⟨(.inr (Nat.le_trans (by first | exact HK.out.1 | exact (show Kept w _ (fun k_ => P0_ k_) from by repeat (first | (with_reducible first | exact HK.out | apply Kept.alloc | apply Kept.drewN | apply Kept.drew | refine Kept.setCell ?_ (.inr GW103.out) _) | exact HK.out)).1) hk)), Kd.fresh' (Kd.R_lt (by (with_reducible repeat (first | apply Kd.R_alloc | apply Kd.R_drewN | apply Kd.R_drew)); exact HO_0.out)) k_ hk, Kd.freshB (g := gb103) (o := .cells #[.int .i64 a1_0, .int .i64 a1_1] 42 (0, 0)) (by (with_reducible repeat (first | refine kN_ ?_ _ | refine k1_ ?_ | refine kA_ ?_ _)); exact BK103.out) k_ hk⟩)); (case aO => exact (by (with_reducible repeat (first | apply Kd.R_alloc | apply Kd.R_drewN | apply Kd.R_drew)); exact HO118.out)); (case aS => exact (bZ_ (by repeat (with_reducible first | exact HB.out | apply bA_ | apply bN_ | apply b1_ | refine bS_ ?_ GE103.out)))); (case aL => have := LMc18.out; omega); intro v121 w22 ho hb hg hat; rw [← Ny120.out] at ho; have n0_ := Ad_.mk (Kd.R_after (ok := (fun k_ => (P0_ k_ ∨ w.heap.size ≤ k_) ∧ k_ ≠ gb103)) (by (with_reducible repeat (first | apply Kd.R_alloc | apply Kd.R_drewN | apply Kd.R_drew)); exact HO_0.out) hg hat); have n1_ := Ad_.mk (blk_grown (g := gb103) (o := .cells #[.int .i64 a1_0, .int .i64 a1_1] 42 (0, 0)) (by (with_reducible repeat (first | refine kN_ ?_ _ | refine k1_ ?_ | refine kA_ ?_ _)); exact BK103.out) hg (Kd.R_away HO118.out (fun _ hk => hk.2.2))); have n2_ := Ad_.mk (hb); have n3_ := Ad_.mk (Kept.of_grown (S := (fun k_ => P0_ k_)) hg (by repeat (first | (with_reducible first | exact HK.out | apply Kept.alloc | apply Kept.drewN | apply Kept.drew | refine Kept.setCell ?_ (.inr GW103.out) _) | exact HK.out)) (fun k_ e_ => (HO118.out.1 k_ e_).1)); have n4_ := Ad_.mk (ho); clear HO_0; clear BK103; clear HB; clear HK; clear HO118; have HO_0 := n0_; have BK103 := n1_; have HB := n2_; have HK := n3_; have HO122 := n4_; clear n0_ n1_ n2_ n3_ n4_; clear ho hb hg hat)))
       go_roundg k1
       case measure => have := HK1.out; omega
       case rel => exact ⟨(y120), (true), (wrap64 (x7_1 + 1)), fs_, fs_, H', ⟨by have := HK1.out; omega⟩, ⟨by (with_reducible repeat (first | apply Kd.R_alloc | apply Kd.R_drewN | apply Kd.R_drew)); exact Kd.R_mono HO_0.out (fun _ hk => ⟨hk.1.1, ⟨hk.2, hk.1.2⟩⟩)⟩, ⟨by (with_reducible repeat (first | apply Kd.R_alloc | apply Kd.R_drewN | apply Kd.R_drew)); exact HO122.out⟩, ⟨by (with_reducible repeat (first | refine kN_ ?_ _ | refine k1_ ?_ | refine kA_ ?_ _)); exact BK103.out⟩, ⟨by repeat (first | (with_reducible first | exact HK.out | apply Kept.alloc | apply Kept.drewN | apply Kept.drew | refine Kept.setCell ?_ (.inr GW103.out) _) | exact HK.out)⟩, ⟨by repeat (with_reducible first | exact HB.out | apply bA_ | apply bN_ | apply b1_ | refine bS_ ?_ GE103.out)⟩⟩
      rw [if_neg c16] at H
      have c16b0 := decide_eq_false c16
      clear c16
      by_cases c23 : ((rd_T42 l0 x7_1).f0) = a1_0
      rotate_left
      ·
       rw [if_neg c23] at H
       have c23b0 : (((rd_T42 l0 x7_1).f0) == a1_0) = false := beq_eq_false_iff_ne.mpr c23
       have c23b1 : (((rd_T42 l0 x7_1).f0) != a1_0) = true := bne_iff_ne.mpr c23
       by_cases c35 : x5_1.length < 8796093022208
       rotate_left
       ·
        rw [if_neg c35] at H
        exact absurd H (by simp)
       rw [if_pos c35] at H
       have LMc35 := Ad_.mk c35
       clear c35
       obtain ⟨y137, hy137⟩ : ∃ y_ : List (S42), y_ = (x5_1 ++ [(⟨(rd_T42 l0 x7_1).f0, (rd_T42 l0 x7_1).f1⟩ : S42)]) := ⟨_, rfl⟩
       replace H : (spec_l12Edge.l0 k1 l0 y137 false (wrap64 (x7_1 + 1)) a1_0 a1_1) = some r := by first | (rw [hy137]; with_reducible exact H) | (have H2_ := (Option.bind_some _ _).symm.trans H; rw [hy137]; with_reducible exact H2_) | (have H2_ := (Option.bind_some _ _).symm.trans H; with_reducible exact H2_) | with_reducible exact H | (rw [hy137]; exact H) | exact H
       have Ny137 := Ad_.mk hy137
       clear hy137
       have H' := Ad_.mk H
       clear H
       obtain ⟨Ao36, co36, eo36⟩ := Kd.R_slice HO_0.out
       subst eo36
       have p110 : 0 ≤ (x7_1 : Int) := od_
       have q110 : x7_1 < (l0.length : Int) := od_
       obtain ⟨ad110, e110, hx110_0, hx110_1⟩ := at_T42 (Kd.R_reads' HO_0.out).2.2 x7_1 p110 q110
       cases e110
       replace p110 := eq_true p110
       replace q110 := eq_true q110
       obtain ⟨hcz37_0, hcz37_1⟩ := cells2_ BK103.out
       obtain ⟨hfz37_0, hfz37_1⟩ := froz2_ BK103.out
       have p115 : 0 ≤ (x7_1 : Int) := od_
       have q115 : x7_1 < (l0.length : Int) := od_
       obtain ⟨ad115, e115, hx115_0, hx115_1⟩ := at_T42 (Kd.R_reads' HO_0.out).2.2 x7_1 p115 q115
       obtain rfl : ad110 = ad115 := (by injection e115)
       replace p115 := eq_true p115
       replace q115 := eq_true q115
       have p123 : 0 ≤ (x7_1 : Int) := od_
       have q123 : x7_1 < (l0.length : Int) := od_
       obtain ⟨ad123, e123, hx123_0, hx123_1⟩ := at_T42 (Kd.R_reads' HO_0.out).2.2 x7_1 p123 q123
       obtain rfl : ad110 = ad123 := (by injection e123)
       replace p123 := eq_true p123
       replace q123 := eq_true q123
       have p136 : 0 ≤ (x7_1 : Int) := od_
       have q136 : x7_1 < (l0.length : Int) := od_
       obtain ⟨ad136, e136, hx136_0, hx136_1⟩ := at_T42 (Kd.R_reads' HO_0.out).2.2 x7_1 p136 q136
       obtain rfl : ad110 = ad136 := (by injection e136)
       replace p136 := eq_true p136
       replace q136 := eq_true q136
       go_wp2_with (first | ((with_reducible refine gB_ (b := .append) (xs := #[.tmp 58, .tmp 63]) rfl ?_); at_builtin; refine Kd.R_append k42 (w0 := w0) w0.heap.size rfl (.tmp 58) (.tmp 63) 26 42 (.agg #[(.int .i64 0), (.int .i64 0)]) 16 rfl Try.underlying26 info42 rfl (by decide) (by omega) u5 x5_1 (⟨(rd_T42 l0 x7_1).f0, (rd_T42 l0 x7_1).f1⟩ : S42) [.int .i64 ((rd_T42 l0 x7_1).f0), .int .i64 ((rd_T42 l0 x7_1).f1)] (fun k_ => (P0_ k_ ∨ w.heap.size ≤ k_) ∧ some k_ ≠ (.slice (some ad110) l0.length co36 : Value).ownBlock ∧ k_ ≠ gb103) (fun _ => False) rfl rfl ?aP (fun _ hk => hk.elim) ?aF ?aO ?aB ?aS ?aL ?_; (case aP => exact k42_mkM _ _ _ (⟨(rd_T42 l0 x7_1).f0, (rd_T42 l0 x7_1).f1⟩ : S42)); (case aB => exact (by repeat (with_reducible first | exact HB.out | apply bA_ | apply bN_ | apply b1_ | refine bS_ ?_ GE103.out))); (case aF => exact (fun k_ hk => ⟨(.inr (Nat.le_trans (by first | exact HK.out.1 | exact (show Kept w _ (fun k_ => P0_ k_) from by repeat (first | (with_reducible first | exact HK.out | apply Kept.alloc | apply Kept.drewN | apply Kept.drew | refine Kept.setCell ?_ (.inr GW103.out) _) | exact HK.out)).1) hk)), Kd.fresh' (Kd.R_lt (by (with_reducible repeat (first | apply Kd.R_alloc | apply Kd.R_drewN | apply Kd.R_drew)); exact HO_0.out)) k_ hk, Kd.freshB (g := gb103) (o := .cells #[.int .i64 a1_0, .int .i64 a1_1] 42 (0, 0)) (by (with_reducible repeat (first | refine kN_ ?_ _ | refine k1_ ?_ | refine kA_ ?_ _)); exact BK103.out) k_ hk⟩)); (case aO => exact (by (with_reducible repeat (first | apply Kd.R_alloc | apply Kd.R_drewN | apply Kd.R_drew)); exact HO_5.out)); (case aS => exact (bZ_ (by repeat (with_reducible first | exact HB.out | apply bA_ | apply bN_ | apply b1_ | refine bS_ ?_ GE103.out)))); (case aL => have := LMc35.out; omega); intro v138 w38 ho hb hg hat; rw [← Ny137.out] at ho; have n0_ := Ad_.mk (Kd.R_after (ok := (fun k_ => (P0_ k_ ∨ w.heap.size ≤ k_) ∧ k_ ≠ gb103)) (by (with_reducible repeat (first | apply Kd.R_alloc | apply Kd.R_drewN | apply Kd.R_drew)); exact Kd.R_mono HO_0.out (fun _ hk => ⟨⟨hk.1, hk.2.2⟩, hk.2.1⟩)) hg hat); have n1_ := Ad_.mk (blk_grown (g := gb103) (o := .cells #[.int .i64 a1_0, .int .i64 a1_1] 42 (0, 0)) (by (with_reducible repeat (first | refine kN_ ?_ _ | refine k1_ ?_ | refine kA_ ?_ _)); exact BK103.out) hg (Kd.R_away HO_5.out (fun _ hk => hk.2.2))); have n2_ := Ad_.mk (hb); have n3_ := Ad_.mk (Kept.of_grown (S := (fun k_ => P0_ k_)) hg (by repeat (first | (with_reducible first | exact HK.out | apply Kept.alloc | apply Kept.drewN | apply Kept.drew | refine Kept.setCell ?_ (.inr GW103.out) _) | exact HK.out)) (fun k_ e_ => (HO_5.out.1 k_ e_).1)); have n4_ := Ad_.mk (ho); clear HO_0; clear BK103; clear HB; clear HK; clear HO_5; have HO_0 := n0_; have BK103 := n1_; have HB := n2_; have HK := n3_; have HO139 := n4_; clear n0_ n1_ n2_ n3_ n4_; clear ho hb hg hat))
       repeat (go_quiet (first | ((with_reducible refine gB_ (b := .append) (xs := #[.tmp 58, .tmp 63]) rfl ?_); at_builtin; refine Kd.R_append k42 (w0 := w0) w0.heap.size rfl (.tmp 58) (.tmp 63) 26 42 (.agg #[(.int .i64 0), (.int .i64 0)]) 16 rfl Try.underlying26 info42 rfl (by decide) (by omega) u5 x5_1 (⟨(rd_T42 l0 x7_1).f0, (rd_T42 l0 x7_1).f1⟩ : S42) [.int .i64 ((rd_T42 l0 x7_1).f0), .int .i64 ((rd_T42 l0 x7_1).f1)] (fun k_ => (P0_ k_ ∨ w.heap.size ≤ k_) ∧ some k_ ≠ (.slice (some ad110) l0.length co36 : Value).ownBlock ∧ k_ ≠ gb103) (fun _ => False) rfl rfl ?aP (fun _ hk => hk.elim) ?aF ?aO ?aB ?aS ?aL ?_; (case aP => exact k42_mkM _ _ _ (⟨(rd_T42 l0 x7_1).f0, (rd_T42 l0 x7_1).f1⟩ : S42)); (case aB => exact (by repeat (with_reducible first | exact HB.out | apply bA_ | apply bN_ | apply b1_ | refine bS_ ?_ GE103.out))); (case aF => exact (fun k_ hk => ⟨(.inr (Nat.le_trans (by first | exact HK.out.1 | exact (show Kept w _ (fun k_ => P0_ k_) from by repeat (first | (with_reducible first | exact HK.out | apply Kept.alloc | apply Kept.drewN | apply Kept.drew | refine Kept.setCell ?_ (.inr GW103.out) _) | exact HK.out)).1) hk)), Kd.fresh' (Kd.R_lt (by (with_reducible repeat (first | apply Kd.R_alloc | apply Kd.R_drewN | apply Kd.R_drew)); exact HO_0.out)) k_ hk, Kd.freshB (g := gb103) (o := .cells #[.int .i64 a1_0, .int .i64 a1_1] 42 (0, 0)) (by (with_reducible repeat (first | refine kN_ ?_ _ | refine k1_ ?_ | refine kA_ ?_ _)); exact BK103.out) k_ hk⟩)); (case aO => exact (by (with_reducible repeat (first | apply Kd.R_alloc | apply Kd.R_drewN | apply Kd.R_drew)); exact HO_5.out)); (case aS => exact (bZ_ (by repeat (with_reducible first | exact HB.out | apply bA_ | apply bN_ | apply b1_ | refine bS_ ?_ GE103.out)))); (case aL => have := LMc35.out; omega); intro v138 w38 ho hb hg hat; rw [← Ny137.out] at ho; have n0_ := Ad_.mk (Kd.R_after (ok := (fun k_ => (P0_ k_ ∨ w.heap.size ≤ k_) ∧ k_ ≠ gb103)) (by (with_reducible repeat (first | apply Kd.R_alloc | apply Kd.R_drewN | apply Kd.R_drew)); exact Kd.R_mono HO_0.out (fun _ hk => ⟨⟨hk.1, hk.2.2⟩, hk.2.1⟩)) hg hat); have n1_ := Ad_.mk (blk_grown (g := gb103) (o := .cells #[.int .i64 a1_0, .int .i64 a1_1] 42 (0, 0)) (by (with_reducible repeat (first | refine kN_ ?_ _ | refine k1_ ?_ | refine kA_ ?_ _)); exact BK103.out) hg (Kd.R_away HO_5.out (fun _ hk => hk.2.2))); have n2_ := Ad_.mk (hb); have n3_ := Ad_.mk (Kept.of_grown (S := (fun k_ => P0_ k_)) hg (by repeat (first | (with_reducible first | exact HK.out | apply Kept.alloc | apply Kept.drewN | apply Kept.drew | refine Kept.setCell ?_ (.inr GW103.out) _) | exact HK.out)) (fun k_ e_ => (HO_5.out.1 k_ e_).1)); have n4_ := Ad_.mk (ho); clear HO_0; clear BK103; clear HB; clear HK; clear HO_5; have HO_0 := n0_; have BK103 := n1_; have HB := n2_; have HK := n3_; have HO139 := n4_; clear n0_ n1_ n2_ n3_ n4_; clear ho hb hg hat)); try go_wp2_with (first | ((with_reducible refine gB_ (b := .append) (xs := #[.tmp 58, .tmp 63]) rfl ?_); at_builtin; refine Kd.R_append k42 (w0 := w0) w0.heap.size rfl (.tmp 58) (.tmp 63) 26 42 (.agg #[(.int .i64 0), (.int .i64 0)]) 16 rfl Try.underlying26 info42 rfl (by decide) (by omega) u5 x5_1 (⟨(rd_T42 l0 x7_1).f0, (rd_T42 l0 x7_1).f1⟩ : S42) [.int .i64 ((rd_T42 l0 x7_1).f0), .int .i64 ((rd_T42 l0 x7_1).f1)] (fun k_ => (P0_ k_ ∨ w.heap.size ≤ k_) ∧ some k_ ≠ (.slice (some ad110) l0.length co36 : Value).ownBlock ∧ k_ ≠ gb103) (fun _ => False) rfl rfl ?aP (fun _ hk => hk.elim) ?aF ?aO ?aB ?aS ?aL ?_; (case aP => exact k42_mkM _ _ _ (⟨(rd_T42 l0 x7_1).f0, (rd_T42 l0 x7_1).f1⟩ : S42)); (case aB => exact (by repeat (with_reducible first | exact HB.out | apply bA_ | apply bN_ | apply b1_ | refine bS_ ?_ GE103.out))); (case aF => exact (fun k_ hk => ⟨(.inr (Nat.le_trans (by first | exact HK.out.1 | exact (show Kept w _ (fun k_ => P0_ k_) from by repeat (first | (with_reducible first | exact HK.out | apply Kept.alloc | apply Kept.drewN | apply Kept.drew | refine Kept.setCell ?_ (.inr GW103.out) _) | exact HK.out)).1) hk)), Kd.fresh' (Kd.R_lt (by (with_reducible repeat (first | apply Kd.R_alloc | apply Kd.R_drewN | apply Kd.R_drew)); exact HO_0.out)) k_ hk, Kd.freshB (g := gb103) (o := .cells #[.int .i64 a1_0, .int .i64 a1_1] 42 (0, 0)) (by (with_reducible repeat (first | refine kN_ ?_ _ | refine k1_ ?_ | refine kA_ ?_ _)); exact BK103.out) k_ hk⟩)); (case aO => exact (by (with_reducible repeat (first | apply Kd.R_alloc | apply Kd.R_drewN | apply Kd.R_drew)); exact HO_5.out)); (case aS => exact (bZ_ (by repeat (with_reducible first | exact HB.out | apply bA_ | apply bN_ | apply b1_ | refine bS_ ?_ GE103.out)))); (case aL => have := LMc35.out; omega); intro v138 w38 ho hb hg hat; rw [← Ny137.out] at ho; have n0_ := Ad_.mk (Kd.R_after (ok := (fun k_ => (P0_ k_ ∨ w.heap.size ≤ k_) ∧ k_ ≠ gb103)) (by (with_reducible repeat (first | apply Kd.R_alloc | apply Kd.R_drewN | apply Kd.R_drew)); exact Kd.R_mono HO_0.out (fun _ hk => ⟨⟨hk.1, hk.2.2⟩, hk.2.1⟩)) hg hat); have n1_ := Ad_.mk (blk_grown (g := gb103) (o := .cells #[.int .i64 a1_0, .int .i64 a1_1] 42 (0, 0)) (by (with_reducible repeat (first | refine kN_ ?_ _ | refine k1_ ?_ | refine kA_ ?_ _)); exact BK103.out) hg (Kd.R_away HO_5.out (fun _ hk => hk.2.2))); have n2_ := Ad_.mk (hb); have n3_ := Ad_.mk (Kept.of_grown (S := (fun k_ => P0_ k_)) hg (by repeat (first | (with_reducible first | exact HK.out | apply Kept.alloc | apply Kept.drewN | apply Kept.drew | refine Kept.setCell ?_ (.inr GW103.out) _) | exact HK.out)) (fun k_ e_ => (HO_5.out.1 k_ e_).1)); have n4_ := Ad_.mk (ho); clear HO_0; clear BK103; clear HB; clear HK; clear HO_5; have HO_0 := n0_; have BK103 := n1_; have HB := n2_; have HK := n3_; have HO139 := n4_; clear n0_ n1_ n2_ n3_ n4_; clear ho hb hg hat)))
       go_roundg k1
       case measure => have := HK1.out; omega
       case rel => exact ⟨(y137), (false), (wrap64 (x7_1 + 1)), fs_, fs_, H', ⟨by have := HK1.out; omega⟩, ⟨by (with_reducible repeat (first | apply Kd.R_alloc | apply Kd.R_drewN | apply Kd.R_drew)); exact Kd.R_mono HO_0.out (fun _ hk => ⟨hk.1.1, ⟨hk.2, hk.1.2⟩⟩)⟩, ⟨by (with_reducible repeat (first | apply Kd.R_alloc | apply Kd.R_drewN | apply Kd.R_drew)); exact HO139.out⟩, ⟨by (with_reducible repeat (first | refine kN_ ?_ _ | refine k1_ ?_ | refine kA_ ?_ _)); exact BK103.out⟩, ⟨by repeat (first | (with_reducible first | exact HK.out | apply Kept.alloc | apply Kept.drewN | apply Kept.drew | refine Kept.setCell ?_ (.inr GW103.out) _) | exact HK.out)⟩, ⟨by repeat (with_reducible first | exact HB.out | apply bA_ | apply bN_ | apply b1_ | refine bS_ ?_ GE103.out)⟩⟩
      rw [if_pos c23] at H
      have c23b0 : (((rd_T42 l0 x7_1).f0) == a1_0) = true := beq_iff_eq.mpr c23
      have cE_ : (((rd_T42 l0 x7_1).f1) == a1_1) = false := by have e_ := c8b0; rw [c23b0] at e_; simpa using e_
      have c23b1 : (((rd_T42 l0 x7_1).f0) != a1_0) = false := bne_eq_false_iff_eq.mpr c23
      clear c23
      by_cases c24 : ((rd_T42 l0 x7_1).f1) > a1_1
      rotate_left
      ·
       rw [if_neg c24] at H
       have c24b0 := decide_eq_false c24
       clear c24
       by_cases c31 : x5_1.length < 8796093022208
       rotate_left
       ·
        rw [if_neg c31] at H
        exact absurd H (by simp)
       rw [if_pos c31] at H
       have LMc31 := Ad_.mk c31
       clear c31
       obtain ⟨y133, hy133⟩ : ∃ y_ : List (S42), y_ = (x5_1 ++ [(⟨(rd_T42 l0 x7_1).f0, (rd_T42 l0 x7_1).f1⟩ : S42)]) := ⟨_, rfl⟩
       replace H : (spec_l12Edge.l0 k1 l0 y133 false (wrap64 (x7_1 + 1)) a1_0 a1_1) = some r := by first | (rw [hy133]; with_reducible exact H) | (have H2_ := (Option.bind_some _ _).symm.trans H; rw [hy133]; with_reducible exact H2_) | (have H2_ := (Option.bind_some _ _).symm.trans H; with_reducible exact H2_) | with_reducible exact H | (rw [hy133]; exact H) | exact H
       have Ny133 := Ad_.mk hy133
       clear hy133
       have H' := Ad_.mk H
       clear H
       obtain ⟨Ao32, co32, eo32⟩ := Kd.R_slice HO_0.out
       subst eo32
       have p110 : 0 ≤ (x7_1 : Int) := od_
       have q110 : x7_1 < (l0.length : Int) := od_
       obtain ⟨ad110, e110, hx110_0, hx110_1⟩ := at_T42 (Kd.R_reads' HO_0.out).2.2 x7_1 p110 q110
       cases e110
       replace p110 := eq_true p110
       replace q110 := eq_true q110
       obtain ⟨hcz33_0, hcz33_1⟩ := cells2_ BK103.out
       obtain ⟨hfz33_0, hfz33_1⟩ := froz2_ BK103.out
       have p115 : 0 ≤ (x7_1 : Int) := od_
       have q115 : x7_1 < (l0.length : Int) := od_
       obtain ⟨ad115, e115, hx115_0, hx115_1⟩ := at_T42 (Kd.R_reads' HO_0.out).2.2 x7_1 p115 q115
       obtain rfl : ad110 = ad115 := (by injection e115)
       replace p115 := eq_true p115
       replace q115 := eq_true q115
       have p123 : 0 ≤ (x7_1 : Int) := od_
       have q123 : x7_1 < (l0.length : Int) := od_
       obtain ⟨ad123, e123, hx123_0, hx123_1⟩ := at_T42 (Kd.R_reads' HO_0.out).2.2 x7_1 p123 q123
       obtain rfl : ad110 = ad123 := (by injection e123)
       replace p123 := eq_true p123
       replace q123 := eq_true q123
       have p124 : 0 ≤ (x7_1 : Int) := od_
       have q124 : x7_1 < (l0.length : Int) := od_
       obtain ⟨ad124, e124, hx124_0, hx124_1⟩ := at_T42 (Kd.R_reads' HO_0.out).2.2 x7_1 p124 q124
       obtain rfl : ad110 = ad124 := (by injection e124)
       replace p124 := eq_true p124
       replace q124 := eq_true q124
       have p132 : 0 ≤ (x7_1 : Int) := od_
       have q132 : x7_1 < (l0.length : Int) := od_
       obtain ⟨ad132, e132, hx132_0, hx132_1⟩ := at_T42 (Kd.R_reads' HO_0.out).2.2 x7_1 p132 q132
       obtain rfl : ad110 = ad132 := (by injection e132)
       replace p132 := eq_true p132
       replace q132 := eq_true q132
       go_wp2_with (first | ((with_reducible refine gB_ (b := .append) (xs := #[.tmp 58, .tmp 63]) rfl ?_); at_builtin; refine Kd.R_append k42 (w0 := w0) w0.heap.size rfl (.tmp 58) (.tmp 63) 26 42 (.agg #[(.int .i64 0), (.int .i64 0)]) 16 rfl Try.underlying26 info42 rfl (by decide) (by omega) u5 x5_1 (⟨(rd_T42 l0 x7_1).f0, (rd_T42 l0 x7_1).f1⟩ : S42) [.int .i64 ((rd_T42 l0 x7_1).f0), .int .i64 ((rd_T42 l0 x7_1).f1)] (fun k_ => (P0_ k_ ∨ w.heap.size ≤ k_) ∧ some k_ ≠ (.slice (some ad110) l0.length co32 : Value).ownBlock ∧ k_ ≠ gb103) (fun _ => False) rfl rfl ?aP (fun _ hk => hk.elim) ?aF ?aO ?aB ?aS ?aL ?_; (case aP => exact k42_mkM _ _ _ (⟨(rd_T42 l0 x7_1).f0, (rd_T42 l0 x7_1).f1⟩ : S42)); (case aB => exact (by repeat (with_reducible first | exact HB.out | apply bA_ | apply bN_ | apply b1_ | refine bS_ ?_ GE103.out))); (case aF => exact (fun k_ hk => ⟨(.inr (Nat.le_trans (by first | exact HK.out.1 | exact (show Kept w _ (fun k_ => P0_ k_) from by repeat (first | (with_reducible first | exact HK.out | apply Kept.alloc | apply Kept.drewN | apply Kept.drew | refine Kept.setCell ?_ (.inr GW103.out) _) | exact HK.out)).1) hk)), Kd.fresh' (Kd.R_lt (by (with_reducible repeat (first | apply Kd.R_alloc | apply Kd.R_drewN | apply Kd.R_drew)); exact HO_0.out)) k_ hk, Kd.freshB (g := gb103) (o := .cells #[.int .i64 a1_0, .int .i64 a1_1] 42 (0, 0)) (by (with_reducible repeat (first | refine kN_ ?_ _ | refine k1_ ?_ | refine kA_ ?_ _)); exact BK103.out) k_ hk⟩)); (case aO => exact (by (with_reducible repeat (first | apply Kd.R_alloc | apply Kd.R_drewN | apply Kd.R_drew)); exact HO_5.out)); (case aS => exact (bZ_ (by repeat (with_reducible first | exact HB.out | apply bA_ | apply bN_ | apply b1_ | refine bS_ ?_ GE103.out)))); (case aL => have := LMc31.out; omega); intro v134 w34 ho hb hg hat; rw [← Ny133.out] at ho; have n0_ := Ad_.mk (Kd.R_after (ok := (fun k_ => (P0_ k_ ∨ w.heap.size ≤ k_) ∧ k_ ≠ gb103)) (by (with_reducible repeat (first | apply Kd.R_alloc | apply Kd.R_drewN | apply Kd.R_drew)); exact Kd.R_mono HO_0.out (fun _ hk => ⟨⟨hk.1, hk.2.2⟩, hk.2.1⟩)) hg hat); have n1_ := Ad_.mk (blk_grown (g := gb103) (o := .cells #[.int .i64 a1_0, .int .i64 a1_1] 42 (0, 0)) (by (with_reducible repeat (first | refine kN_ ?_ _ | refine k1_ ?_ | refine kA_ ?_ _)); exact BK103.out) hg (Kd.R_away HO_5.out (fun _ hk => hk.2.2))); have n2_ := Ad_.mk (hb); have n3_ := Ad_.mk (Kept.of_grown (S := (fun k_ => P0_ k_)) hg (by repeat (first | (with_reducible first | exact HK.out | apply Kept.alloc | apply Kept.drewN | apply Kept.drew | refine Kept.setCell ?_ (.inr GW103.out) _) | exact HK.out)) (fun k_ e_ => (HO_5.out.1 k_ e_).1)); have n4_ := Ad_.mk (ho); clear HO_0; clear BK103; clear HB; clear HK; clear HO_5; have HO_0 := n0_; have BK103 := n1_; have HB := n2_; have HK := n3_; have HO135 := n4_; clear n0_ n1_ n2_ n3_ n4_; clear ho hb hg hat))
       repeat (go_quiet (first | ((with_reducible refine gB_ (b := .append) (xs := #[.tmp 58, .tmp 63]) rfl ?_); at_builtin; refine Kd.R_append k42 (w0 := w0) w0.heap.size rfl (.tmp 58) (.tmp 63) 26 42 (.agg #[(.int .i64 0), (.int .i64 0)]) 16 rfl Try.underlying26 info42 rfl (by decide) (by omega) u5 x5_1 (⟨(rd_T42 l0 x7_1).f0, (rd_T42 l0 x7_1).f1⟩ : S42) [.int .i64 ((rd_T42 l0 x7_1).f0), .int .i64 ((rd_T42 l0 x7_1).f1)] (fun k_ => (P0_ k_ ∨ w.heap.size ≤ k_) ∧ some k_ ≠ (.slice (some ad110) l0.length co32 : Value).ownBlock ∧ k_ ≠ gb103) (fun _ => False) rfl rfl ?aP (fun _ hk => hk.elim) ?aF ?aO ?aB ?aS ?aL ?_; (case aP => exact k42_mkM _ _ _ (⟨(rd_T42 l0 x7_1).f0, (rd_T42 l0 x7_1).f1⟩ : S42)); (case aB => exact (by repeat (with_reducible first | exact HB.out | apply bA_ | apply bN_ | apply b1_ | refine bS_ ?_ GE103.out))); (case aF => exact (fun k_ hk => ⟨(.inr (Nat.le_trans (by first | exact HK.out.1 | exact (show Kept w _ (fun k_ => P0_ k_) from by repeat (first | (with_reducible first | exact HK.out | apply Kept.alloc | apply Kept.drewN | apply Kept.drew | refine Kept.setCell ?_ (.inr GW103.out) _) | exact HK.out)).1) hk)), Kd.fresh' (Kd.R_lt (by (with_reducible repeat (first | apply Kd.R_alloc | apply Kd.R_drewN | apply Kd.R_drew)); exact HO_0.out)) k_ hk, Kd.freshB (g := gb103) (o := .cells #[.int .i64 a1_0, .int .i64 a1_1] 42 (0, 0)) (by (with_reducible repeat (first | refine kN_ ?_ _ | refine k1_ ?_ | refine kA_ ?_ _)); exact BK103.out) k_ hk⟩)); (case aO => exact (by (with_reducible repeat (first | apply Kd.R_alloc | apply Kd.R_drewN | apply Kd.R_drew)); exact HO_5.out)); (case aS => exact (bZ_ (by repeat (with_reducible first | exact HB.out | apply bA_ | apply bN_ | apply b1_ | refine bS_ ?_ GE103.out)))); (case aL => have := LMc31.out; omega); intro v134 w34 ho hb hg hat; rw [← Ny133.out] at ho; have n0_ := Ad_.mk (Kd.R_after (ok := (fun k_ => (P0_ k_ ∨ w.heap.size ≤ k_) ∧ k_ ≠ gb103)) (by (with_reducible repeat (first | apply Kd.R_alloc | apply Kd.R_drewN | apply Kd.R_drew)); exact Kd.R_mono HO_0.out (fun _ hk => ⟨⟨hk.1, hk.2.2⟩, hk.2.1⟩)) hg hat); have n1_ := Ad_.mk (blk_grown (g := gb103) (o := .cells #[.int .i64 a1_0, .int .i64 a1_1] 42 (0, 0)) (by (with_reducible repeat (first | refine kN_ ?_ _ | refine k1_ ?_ | refine kA_ ?_ _)); exact BK103.out) hg (Kd.R_away HO_5.out (fun _ hk => hk.2.2))); have n2_ := Ad_.mk (hb); have n3_ := Ad_.mk (Kept.of_grown (S := (fun k_ => P0_ k_)) hg (by repeat (first | (with_reducible first | exact HK.out | apply Kept.alloc | apply Kept.drewN | apply Kept.drew | refine Kept.setCell ?_ (.inr GW103.out) _) | exact HK.out)) (fun k_ e_ => (HO_5.out.1 k_ e_).1)); have n4_ := Ad_.mk (ho); clear HO_0; clear BK103; clear HB; clear HK; clear HO_5; have HO_0 := n0_; have BK103 := n1_; have HB := n2_; have HK := n3_; have HO135 := n4_; clear n0_ n1_ n2_ n3_ n4_; clear ho hb hg hat)); try go_wp2_with (first | ((with_reducible refine gB_ (b := .append) (xs := #[.tmp 58, .tmp 63]) rfl ?_); at_builtin; refine Kd.R_append k42 (w0 := w0) w0.heap.size rfl (.tmp 58) (.tmp 63) 26 42 (.agg #[(.int .i64 0), (.int .i64 0)]) 16 rfl Try.underlying26 info42 rfl (by decide) (by omega) u5 x5_1 (⟨(rd_T42 l0 x7_1).f0, (rd_T42 l0 x7_1).f1⟩ : S42) [.int .i64 ((rd_T42 l0 x7_1).f0), .int .i64 ((rd_T42 l0 x7_1).f1)] (fun k_ => (P0_ k_ ∨ w.heap.size ≤ k_) ∧ some k_ ≠ (.slice (some ad110) l0.length co32 : Value).ownBlock ∧ k_ ≠ gb103) (fun _ => False) rfl rfl ?aP (fun _ hk => hk.elim) ?aF ?aO ?aB ?aS ?aL ?_; (case aP => exact k42_mkM _ _ _ (⟨(rd_T42 l0 x7_1).f0, (rd_T42 l0 x7_1).f1⟩ : S42)); (case aB => exact (by repeat (with_reducible first | exact HB.out | apply bA_ | apply bN_ | apply b1_ | refine bS_ ?_ GE103.out))); (case aF => exact (fun k_ hk => ⟨(.inr (Nat.le_trans (by first | exact HK.out.1 | exact (show Kept w _ (fun k_ => P0_ k_) from by repeat (first | (with_reducible first | exact HK.out | apply Kept.alloc | apply Kept.drewN | apply Kept.drew | refine Kept.setCell ?_ (.inr GW103.out) _) | exact HK.out)).1) hk)), Kd.fresh' (Kd.R_lt (by (with_reducible repeat (first | apply Kd.R_alloc | apply Kd.R_drewN | apply Kd.R_drew)); exact HO_0.out)) k_ hk, Kd.freshB (g := gb103) (o := .cells #[.int .i64 a1_0, .int .i64 a1_1] 42 (0, 0)) (by (with_reducible repeat (first | refine kN_ ?_ _ | refine k1_ ?_ | refine kA_ ?_ _)); exact BK103.out) k_ hk⟩)); (case aO => exact (by (with_reducible repeat (first | apply Kd.R_alloc | apply Kd.R_drewN | apply Kd.R_drew)); exact HO_5.out)); (case aS => exact (bZ_ (by repeat (with_reducible first | exact HB.out | apply bA_ | apply bN_ | apply b1_ | refine bS_ ?_ GE103.out)))); (case aL => have := LMc31.out; omega); intro v134 w34 ho hb hg hat; rw [← Ny133.out] at ho; have n0_ := Ad_.mk (Kd.R_after (ok := (fun k_ => (P0_ k_ ∨ w.heap.size ≤ k_) ∧ k_ ≠ gb103)) (by (with_reducible repeat (first | apply Kd.R_alloc | apply Kd.R_drewN | apply Kd.R_drew)); exact Kd.R_mono HO_0.out (fun _ hk => ⟨⟨hk.1, hk.2.2⟩, hk.2.1⟩)) hg hat); have n1_ := Ad_.mk (blk_grown (g := gb103) (o := .cells #[.int .i64 a1_0, .int .i64 a1_1] 42 (0, 0)) (by (with_reducible repeat (first | refine kN_ ?_ _ | refine k1_ ?_ | refine kA_ ?_ _)); exact BK103.out) hg (Kd.R_away HO_5.out (fun _ hk => hk.2.2))); have n2_ := Ad_.mk (hb); have n3_ := Ad_.mk (Kept.of_grown (S := (fun k_ => P0_ k_)) hg (by repeat (first | (with_reducible first | exact HK.out | apply Kept.alloc | apply Kept.drewN | apply Kept.drew | refine Kept.setCell ?_ (.inr GW103.out) _) | exact HK.out)) (fun k_ e_ => (HO_5.out.1 k_ e_).1)); have n4_ := Ad_.mk (ho); clear HO_0; clear BK103; clear HB; clear HK; clear HO_5; have HO_0 := n0_; have BK103 := n1_; have HB := n2_; have HK := n3_; have HO135 := n4_; clear n0_ n1_ n2_ n3_ n4_; clear ho hb hg hat)))
       go_roundg k1
       case measure => have := HK1.out; omega
       case rel => exact ⟨(y133), (false), (wrap64 (x7_1 + 1)), fs_, fs_, H', ⟨by have := HK1.out; omega⟩, ⟨by (with_reducible repeat (first | apply Kd.R_alloc | apply Kd.R_drewN | apply Kd.R_drew)); exact Kd.R_mono HO_0.out (fun _ hk => ⟨hk.1.1, ⟨hk.2, hk.1.2⟩⟩)⟩, ⟨by (with_reducible repeat (first | apply Kd.R_alloc | apply Kd.R_drewN | apply Kd.R_drew)); exact HO135.out⟩, ⟨by (with_reducible repeat (first | refine kN_ ?_ _ | refine k1_ ?_ | refine kA_ ?_ _)); exact BK103.out⟩, ⟨by repeat (first | (with_reducible first | exact HK.out | apply Kept.alloc | apply Kept.drewN | apply Kept.drew | refine Kept.setCell ?_ (.inr GW103.out) _) | exact HK.out)⟩, ⟨by repeat (with_reducible first | exact HB.out | apply bA_ | apply bN_ | apply b1_ | refine bS_ ?_ GE103.out)⟩⟩
      rw [if_pos c24] at H
      have c24b0 := decide_eq_true c24
      clear c24
      by_cases c25 : x5_1.length < 8796093022208
      rotate_left
      ·
       rw [if_neg c25] at H
       exact absurd H (by simp)
      rw [if_pos c25] at H
      have LMc25 := Ad_.mk c25
      clear c25
      obtain ⟨y125, hy125⟩ : ∃ y_ : List (S42), y_ = (x5_1 ++ [(⟨a1_0, a1_1⟩ : S42)]) := ⟨_, rfl⟩
      replace H : (if y125.length < 8796093022208 then (spec_l12Edge.l0 k1 l0 (y125 ++ [(⟨(rd_T42 l0 x7_1).f0, (rd_T42 l0 x7_1).f1⟩ : S42)]) true (wrap64 (x7_1 + 1)) a1_0 a1_1) else (none)) = some r := by first | (rw [hy125]; with_reducible exact H) | (have H2_ := (Option.bind_some _ _).symm.trans H; rw [hy125]; with_reducible exact H2_) | (have H2_ := (Option.bind_some _ _).symm.trans H; with_reducible exact H2_) | with_reducible exact H | (rw [hy125]; exact H) | exact H
      have Ny125 := Ad_.mk hy125
      clear hy125
      by_cases c26 : y125.length < 8796093022208
      rotate_left
      ·
       rw [if_neg c26] at H
       exact absurd H (by simp)
      rw [if_pos c26] at H
      have LMc26 := Ad_.mk c26
      clear c26
      obtain ⟨y129, hy129⟩ : ∃ y_ : List (S42), y_ = (y125 ++ [(⟨(rd_T42 l0 x7_1).f0, (rd_T42 l0 x7_1).f1⟩ : S42)]) := ⟨_, rfl⟩
      replace H : (spec_l12Edge.l0 k1 l0 y129 true (wrap64 (x7_1 + 1)) a1_0 a1_1) = some r := by first | (rw [hy129]; with_reducible exact H) | (have H2_ := (Option.bind_some _ _).symm.trans H; rw [hy129]; with_reducible exact H2_) | (have H2_ := (Option.bind_some _ _).symm.trans H; with_reducible exact H2_) | with_reducible exact H | (rw [hy129]; exact H) | exact H
      have Ny129 := Ad_.mk hy129
      clear hy129
      have H' := Ad_.mk H
      clear H
      obtain ⟨Ao27, co27, eo27⟩ := Kd.R_slice HO_0.out
      subst eo27
      have p110 : 0 ≤ (x7_1 : Int) := od_
      have q110 : x7_1 < (l0.length : Int) := od_
      obtain ⟨ad110, e110, hx110_0, hx110_1⟩ := at_T42 (Kd.R_reads' HO_0.out).2.2 x7_1 p110 q110
      cases e110
      replace p110 := eq_true p110
      replace q110 := eq_true q110
      obtain ⟨hcz28_0, hcz28_1⟩ := cells2_ BK103.out
      obtain ⟨hfz28_0, hfz28_1⟩ := froz2_ BK103.out
      have p115 : 0 ≤ (x7_1 : Int) := od_
      have q115 : x7_1 < (l0.length : Int) := od_
      obtain ⟨ad115, e115, hx115_0, hx115_1⟩ := at_T42 (Kd.R_reads' HO_0.out).2.2 x7_1 p115 q115
      obtain rfl : ad110 = ad115 := (by injection e115)
      replace p115 := eq_true p115
      replace q115 := eq_true q115
      have p123 : 0 ≤ (x7_1 : Int) := od_
      have q123 : x7_1 < (l0.length : Int) := od_
      obtain ⟨ad123, e123, hx123_0, hx123_1⟩ := at_T42 (Kd.R_reads' HO_0.out).2.2 x7_1 p123 q123
      obtain rfl : ad110 = ad123 := (by injection e123)
      replace p123 := eq_true p123
      replace q123 := eq_true q123
      have p124 : 0 ≤ (x7_1 : Int) := od_
      have q124 : x7_1 < (l0.length : Int) := od_
      obtain ⟨ad124, e124, hx124_0, hx124_1⟩ := at_T42 (Kd.R_reads' HO_0.out).2.2 x7_1 p124 q124
      obtain rfl : ad110 = ad124 := (by injection e124)
      replace p124 := eq_true p124
      replace q124 := eq_true q124
      go_wp2_with (first | ((with_reducible refine gB_ (b := .append) (xs := #[.tmp 54, .tmp 56]) rfl ?_); at_builtin; refine Kd.R_append k42 (w0 := w0) w0.heap.size rfl (.tmp 54) (.tmp 56) 26 42 (.agg #[(.int .i64 0), (.int .i64 0)]) 16 rfl Try.underlying26 info42 rfl (by decide) (by omega) u5 x5_1 (⟨a1_0, a1_1⟩ : S42) [.int .i64 a1_0, .int .i64 a1_1] (fun k_ => (P0_ k_ ∨ w.heap.size ≤ k_) ∧ some k_ ≠ (.slice (some ad110) l0.length co27 : Value).ownBlock ∧ k_ ≠ gb103) (fun _ => False) rfl rfl ?aP (fun _ hk => hk.elim) ?aF ?aO ?aB ?aS ?aL ?_; (case aP => exact k42_mkM _ _ _ (⟨a1_0, a1_1⟩ : S42)); (case aB => exact (by repeat (with_reducible first | exact HB.out | apply bA_ | apply bN_ | apply b1_ | refine bS_ ?_ GE103.out))); (case aF => exact (fun k_ hk => ⟨(.inr (Nat.le_trans (by first | exact HK.out.1 | exact (show Kept w _ (fun k_ => P0_ k_) from by repeat (first | (with_reducible first | exact HK.out | apply Kept.alloc | apply Kept.drewN | apply Kept.drew | refine Kept.setCell ?_ (.inr GW103.out) _) | exact HK.out)).1) hk)), Kd.fresh' (Kd.R_lt (by (with_reducible repeat (first | apply Kd.R_alloc | apply Kd.R_drewN | apply Kd.R_drew)); exact HO_0.out)) k_ hk, Kd.freshB (g := gb103) (o := .cells #[.int .i64 a1_0, .int .i64 a1_1] 42 (0, 0)) (by (with_reducible repeat (first | refine kN_ ?_ _ | refine k1_ ?_ | refine kA_ ?_ _)); exact BK103.out) k_ hk⟩)); (case aO => exact (by (with_reducible repeat (first | apply Kd.R_alloc | apply Kd.R_drewN | apply Kd.R_drew)); exact HO_5.out)); (case aS => exact (bZ_ (by repeat (with_reducible first | exact HB.out | apply bA_ | apply bN_ | apply b1_ | refine bS_ ?_ GE103.out)))); (case aL => have := LMc25.out; omega); intro v126 w29 ho hb hg hat; rw [← Ny125.out] at ho; have n0_ := Ad_.mk (Kd.R_after (ok := (fun k_ => (P0_ k_ ∨ w.heap.size ≤ k_) ∧ k_ ≠ gb103)) (by (with_reducible repeat (first | apply Kd.R_alloc | apply Kd.R_drewN | apply Kd.R_drew)); exact Kd.R_mono HO_0.out (fun _ hk => ⟨⟨hk.1, hk.2.2⟩, hk.2.1⟩)) hg hat); have n1_ := Ad_.mk (blk_grown (g := gb103) (o := .cells #[.int .i64 a1_0, .int .i64 a1_1] 42 (0, 0)) (by (with_reducible repeat (first | refine kN_ ?_ _ | refine k1_ ?_ | refine kA_ ?_ _)); exact BK103.out) hg (Kd.R_away HO_5.out (fun _ hk => hk.2.2))); have n2_ := Ad_.mk (hb); have n3_ := Ad_.mk (Kept.of_grown (S := (fun k_ => P0_ k_)) hg (by repeat (first | (with_reducible first | exact HK.out | apply Kept.alloc | apply Kept.drewN | apply Kept.drew | refine Kept.setCell ?_ (.inr GW103.out) _) | exact HK.out)) (fun k_ e_ => (HO_5.out.1 k_ e_).1)); have n4_ := Ad_.mk (ho); clear HO_0; clear BK103; clear HB; clear HK; clear HO_5; have HO_0 := n0_; have BK103 := n1_; have HB := n2_; have HK := n3_; have HO127 := n4_; clear n0_ n1_ n2_ n3_ n4_; clear ho hb hg hat; have p128 : 0 ≤ (x7_1 : Int) := od_; have q128 : x7_1 < (l0.length : Int) := od_; obtain ⟨ad128, e128, hx128_0, hx128_1⟩ := at_T42 (Kd.R_reads' HO_0.out).2.2 x7_1 p128 q128; obtain rfl : ad110 = ad128 := (by injection e128); replace p128 := eq_true p128; replace q128 := eq_true q128) | ((with_reducible refine gB_ (b := .append) (xs := #[.tmp 58, .tmp 63]) rfl ?_); at_builtin; refine Kd.R_append k42 (w0 := w0) w0.heap.size rfl (.tmp 58) (.tmp 63) 26 42 (.agg #[(.int .i64 0), (.int .i64 0)]) 16 rfl Try.underlying26 info42 rfl (by decide) (by omega) v126 y125 (⟨(rd_T42 l0 x7_1).f0, (rd_T42 l0 x7_1).f1⟩ : S42) [.int .i64 ((rd_T42 l0 x7_1).f0), .int .i64 ((rd_T42 l0 x7_1).f1)] (fun k_ => (P0_ k_ ∨ w.heap.size ≤ k_) ∧ some k_ ≠ (.slice (some ad110) l0.length co27 : Value).ownBlock ∧ k_ ≠ gb103) (fun _ => False) rfl rfl ?aP (fun _ hk => hk.elim) ?aF ?aO ?aB ?aS ?aL ?_; (case aP => exact k42_mkM _ _ _ (⟨(rd_T42 l0 x7_1).f0, (rd_T42 l0 x7_1).f1⟩ : S42)); (case aB => exact (by repeat (with_reducible first | exact HB.out | apply bA_ | apply bN_ | apply b1_ | refine bS_ ?_ GE103.out))); (case aF => exact (fun k_ hk => ⟨(.inr (Nat.le_trans (by first | exact HK.out.1 | exact (show Kept w _ (fun k_ => P0_ k_) from by repeat (first | (with_reducible first | exact HK.out | apply Kept.alloc | apply Kept.drewN | apply Kept.drew | refine Kept.setCell ?_ (.inr GW103.out) _) | exact HK.out)).1) hk)), Kd.fresh' (Kd.R_lt (by (with_reducible repeat (first | apply Kd.R_alloc | apply Kd.R_drewN | apply Kd.R_drew)); exact HO_0.out)) k_ hk, Kd.freshB (g := gb103) (o := .cells #[.int .i64 a1_0, .int .i64 a1_1] 42 (0, 0)) (by (with_reducible repeat (first | refine kN_ ?_ _ | refine k1_ ?_ | refine kA_ ?_ _)); exact BK103.out) k_ hk⟩)); (case aO => exact (by (with_reducible repeat (first | apply Kd.R_alloc | apply Kd.R_drewN | apply Kd.R_drew)); exact HO127.out)); (case aS => exact (bZ_ (by repeat (with_reducible first | exact HB.out | apply bA_ | apply bN_ | apply b1_ | refine bS_ ?_ GE103.out)))); (case aL => have := LMc26.out; omega); intro v130 w30 ho hb hg hat; rw [← Ny129.out] at ho; have n0_ := Ad_.mk (Kd.R_after (ok := (fun k_ => (P0_ k_ ∨ w.heap.size ≤ k_) ∧ k_ ≠ gb103)) (by (with_reducible repeat (first | apply Kd.R_alloc | apply Kd.R_drewN | apply Kd.R_drew)); exact HO_0.out) hg hat); have n1_ := Ad_.mk (blk_grown (g := gb103) (o := .cells #[.int .i64 a1_0, .int .i64 a1_1] 42 (0, 0)) (by (with_reducible repeat (first | refine kN_ ?_ _ | refine k1_ ?_ | refine kA_ ?_ _)); exact BK103.out) hg (Kd.R_away HO127.out (fun _ hk => hk.2.2))); have n2_ := Ad_.mk (hb); have n3_ := Ad_.mk (Kept.of_grown (S := (fun k_ => P0_ k_)) hg (by repeat (first | (with_reducible first | exact HK.out | apply Kept.alloc | apply Kept.drewN | apply Kept.drew | refine Kept.setCell ?_ (.inr GW103.out) _) | exact HK.out)) (fun k_ e_ => (HO127.out.1 k_ e_).1)); have n4_ := Ad_.mk (ho); clear HO_0; clear BK103; clear HB; clear HK; clear HO127; have HO_0 := n0_; have BK103 := n1_; have HB := n2_; have HK := n3_; have HO131 := n4_; clear n0_ n1_ n2_ n3_ n4_; clear ho hb hg hat))
      repeat (go_quiet (first | ((with_reducible refine gB_ (b := .append) (xs := #[.tmp 54, .tmp 56]) rfl ?_); at_builtin; refine Kd.R_append k42 (w0 := w0) w0.heap.size rfl (.tmp 54) (.tmp 56) 26 42 (.agg #[(.int .i64 0), (.int .i64 0)]) 16 rfl Try.underlying26 info42 rfl (by decide) (by omega) u5 x5_1 (⟨a1_0, a1_1⟩ : S42) [.int .i64 a1_0, .int .i64 a1_1] (fun k_ => (P0_ k_ ∨ w.heap.size ≤ k_) ∧ some k_ ≠ (.slice (some ad110) l0.length co27 : Value).ownBlock ∧ k_ ≠ gb103) (fun _ => False) rfl rfl ?aP (fun _ hk => hk.elim) ?aF ?aO ?aB ?aS ?aL ?_; (case aP => exact k42_mkM _ _ _ (⟨a1_0, a1_1⟩ : S42)); (case aB => exact (by repeat (with_reducible first | exact HB.out | apply bA_ | apply bN_ | apply b1_ | refine bS_ ?_ GE103.out))); (case aF => exact (fun k_ hk => ⟨(.inr (Nat.le_trans (by first | exact HK.out.1 | exact (show Kept w _ (fun k_ => P0_ k_) from by repeat (first | (with_reducible first | exact HK.out | apply Kept.alloc | apply Kept.drewN | apply Kept.drew | refine Kept.setCell ?_ (.inr GW103.out) _) | exact HK.out)).1) hk)), Kd.fresh' (Kd.R_lt (by (with_reducible repeat (first | apply Kd.R_alloc | apply Kd.R_drewN | apply Kd.R_drew)); exact HO_0.out)) k_ hk, Kd.freshB (g := gb103) (o := .cells #[.int .i64 a1_0, .int .i64 a1_1] 42 (0, 0)) (by (with_reducible repeat (first | refine kN_ ?_ _ | refine k1_ ?_ | refine kA_ ?_ _)); exact BK103.out) k_ hk⟩)); (case aO => exact (by (with_reducible repeat (first | apply Kd.R_alloc | apply Kd.R_drewN | apply Kd.R_drew)); exact HO_5.out)); (case aS => exact (bZ_ (by repeat (with_reducible first | exact HB.out | apply bA_ | apply bN_ | apply b1_ | refine bS_ ?_ GE103.out)))); (case aL => have := LMc25.out; omega); intro v126 w29 ho hb hg hat; rw [← Ny125.out] at ho; have n0_ := Ad_.mk (Kd.R_after (ok := (fun k_ => (P0_ k_ ∨ w.heap.size ≤ k_) ∧ k_ ≠ gb103)) (by (with_reducible repeat (first | apply Kd.R_alloc | apply Kd.R_drewN | apply Kd.R_drew)); exact Kd.R_mono HO_0.out (fun _ hk => ⟨⟨hk.1, hk.2.2⟩, hk.2.1⟩)) hg hat); have n1_ := Ad_.mk (blk_grown (g := gb103) (o := .cells #[.int .i64 a1_0, .int .i64 a1_1] 42 (0, 0)) (by (with_reducible repeat (first | refine kN_ ?_ _ | refine k1_ ?_ | refine kA_ ?_ _)); exact BK103.out) hg (Kd.R_away HO_5.out (fun _ hk => hk.2.2))); have n2_ := Ad_.mk (hb); have n3_ := Ad_.mk (Kept.of_grown (S := (fun k_ => P0_ k_)) hg (by repeat (first | (with_reducible first | exact HK.out | apply Kept.alloc | apply Kept.drewN | apply Kept.drew | refine Kept.setCell ?_ (.inr GW103.out) _) | exact HK.out)) (fun k_ e_ => (HO_5.out.1 k_ e_).1)); have n4_ := Ad_.mk (ho); clear HO_0; clear BK103; clear HB; clear HK; clear HO_5; have HO_0 := n0_; have BK103 := n1_; have HB := n2_; have HK := n3_; have HO127 := n4_; clear n0_ n1_ n2_ n3_ n4_; clear ho hb hg hat; have p128 : 0 ≤ (x7_1 : Int) := od_; have q128 : x7_1 < (l0.length : Int) := od_; obtain ⟨ad128, e128, hx128_0, hx128_1⟩ := at_T42 (Kd.R_reads' HO_0.out).2.2 x7_1 p128 q128; obtain rfl : ad110 = ad128 := (by injection e128); replace p128 := eq_true p128; replace q128 := eq_true q128) | ((with_reducible refine gB_ (b := .append) (xs := #[.tmp 58, .tmp 63]) rfl ?_); at_builtin; refine Kd.R_append k42 (w0 := w0) w0.heap.size rfl (.tmp 58) (.tmp 63) 26 42 (.agg #[(.int .i64 0), (.int .i64 0)]) 16 rfl Try.underlying26 info42 rfl (by decide) (by omega) v126 y125 (⟨(rd_T42 l0 x7_1).f0, (rd_T42 l0 x7_1).f1⟩ : S42) [.int .i64 ((rd_T42 l0 x7_1).f0), .int .i64 ((rd_T42 l0 x7_1).f1)] (fun k_ => (P0_ k_ ∨ w.heap.size ≤ k_) ∧ some k_ ≠ (.slice (some ad110) l0.length co27 : Value).ownBlock ∧ k_ ≠ gb103) (fun _ => False) rfl rfl ?aP (fun _ hk => hk.elim) ?aF ?aO ?aB ?aS ?aL ?_; (case aP => exact k42_mkM _ _ _ (⟨(rd_T42 l0 x7_1).f0, (rd_T42 l0 x7_1).f1⟩ : S42)); (case aB => exact (by repeat (with_reducible first | exact HB.out | apply bA_ | apply bN_ | apply b1_ | refine bS_ ?_ GE103.out))); (case aF => exact (fun k_ hk => ⟨(.inr (Nat.le_trans (by first | exact HK.out.1 | exact (show Kept w _ (fun k_ => P0_ k_) from by repeat (first | (with_reducible first | exact HK.out | apply Kept.alloc | apply Kept.drewN | apply Kept.drew | refine Kept.setCell ?_ (.inr GW103.out) _) | exact HK.out)).1) hk)), Kd.fresh' (Kd.R_lt (by (with_reducible repeat (first | apply Kd.R_alloc | apply Kd.R_drewN | apply Kd.R_drew)); exact HO_0.out)) k_ hk, Kd.freshB (g := gb103) (o := .cells #[.int .i64 a1_0, .int .i64 a1_1] 42 (0, 0)) (by (with_reducible repeat (first | refine kN_ ?_ _ | refine k1_ ?_ | refine kA_ ?_ _)); exact BK103.out) k_ hk⟩)); (case aO => exact (by (with_reducible repeat (first | apply Kd.R_alloc | apply Kd.R_drewN | apply Kd.R_drew)); exact HO127.out)); (case aS => exact (bZ_ (by repeat (with_reducible first | exact HB.out | apply bA_ | apply bN_ | apply b1_ | refine bS_ ?_ GE103.out)))); (case aL => have := LMc26.out; omega); intro v130 w30 ho hb hg hat; rw [← Ny129.out] at ho; have n0_ := Ad_.mk (Kd.R_after (ok := (fun k_ => (P0_ k_ ∨ w.heap.size ≤ k_) ∧ k_ ≠ gb103)) (by (with_reducible repeat (first | apply Kd.R_alloc | apply Kd.R_drewN | apply Kd.R_drew)); exact HO_0.out) hg hat); have n1_ := Ad_.mk (blk_grown (g := gb103) (o := .cells #[.int .i64 a1_0, .int .i64 a1_1] 42 (0, 0)) (by (with_reducible repeat (first | refine kN_ ?_ _ | refine k1_ ?_ | refine kA_ ?_ _)); exact BK103.out) hg (Kd.R_away HO127.out (fun _ hk => hk.2.2))); have n2_ := Ad_.mk (hb); have n3_ := Ad_.mk (Kept.of_grown (S := (fun k_ => P0_ k_)) hg (by repeat (first | (with_reducible first | exact HK.out | apply Kept.alloc | apply Kept.drewN | apply Kept.drew | refine Kept.setCell ?_ (.inr GW103.out) _) | exact HK.out)) (fun k_ e_ => (HO127.out.1 k_ e_).1)); have n4_ := Ad_.mk (ho); clear HO_0; clear BK103; clear HB; clear HK; clear HO127; have HO_0 := n0_; have BK103 := n1_; have HB := n2_; have HK := n3_; have HO131 := n4_; clear n0_ n1_ n2_ n3_ n4_; clear ho hb hg hat)); try go_wp2_with (first | ((with_reducible refine gB_ (b := .append) (xs := #[.tmp 54, .tmp 56]) rfl ?_); at_builtin; refine Kd.R_append k42 (w0 := w0) w0.heap.size rfl (.tmp 54) (.tmp 56) 26 42 (.agg #[(.int .i64 0), (.int .i64 0)]) 16 rfl Try.underlying26 info42 rfl (by decide) (by omega) u5 x5_1 (⟨a1_0, a1_1⟩ : S42) [.int .i64 a1_0, .int .i64 a1_1] (fun k_ => (P0_ k_ ∨ w.heap.size ≤ k_) ∧ some k_ ≠ (.slice (some ad110) l0.length co27 : Value).ownBlock ∧ k_ ≠ gb103) (fun _ => False) rfl rfl ?aP (fun _ hk => hk.elim) ?aF ?aO ?aB ?aS ?aL ?_; (case aP => exact k42_mkM _ _ _ (⟨a1_0, a1_1⟩ : S42)); (case aB => exact (by repeat (with_reducible first | exact HB.out | apply bA_ | apply bN_ | apply b1_ | refine bS_ ?_ GE103.out))); (case aF => exact (fun k_ hk => ⟨(.inr (Nat.le_trans (by first | exact HK.out.1 | exact (show Kept w _ (fun k_ => P0_ k_) from by repeat (first | (with_reducible first | exact HK.out | apply Kept.alloc | apply Kept.drewN | apply Kept.drew | refine Kept.setCell ?_ (.inr GW103.out) _) | exact HK.out)).1) hk)), Kd.fresh' (Kd.R_lt (by (with_reducible repeat (first | apply Kd.R_alloc | apply Kd.R_drewN | apply Kd.R_drew)); exact HO_0.out)) k_ hk, Kd.freshB (g := gb103) (o := .cells #[.int .i64 a1_0, .int .i64 a1_1] 42 (0, 0)) (by (with_reducible repeat (first | refine kN_ ?_ _ | refine k1_ ?_ | refine kA_ ?_ _)); exact BK103.out) k_ hk⟩)); (case aO => exact (by (with_reducible repeat (first | apply Kd.R_alloc | apply Kd.R_drewN | apply Kd.R_drew)); exact HO_5.out)); (case aS => exact (bZ_ (by repeat (with_reducible first | exact HB.out | apply bA_ | apply bN_ | apply b1_ | refine bS_ ?_ GE103.out)))); (case aL => have := LMc25.out; omega); intro v126 w29 ho hb hg hat; rw [← Ny125.out] at ho; have n0_ := Ad_.mk (Kd.R_after (ok := (fun k_ => (P0_ k_ ∨ w.heap.size ≤ k_) ∧ k_ ≠ gb103)) (by (with_reducible repeat (first | apply Kd.R_alloc | apply Kd.R_drewN | apply Kd.R_drew)); exact Kd.R_mono HO_0.out (fun _ hk => ⟨⟨hk.1, hk.2.2⟩, hk.2.1⟩)) hg hat); have n1_ := Ad_.mk (blk_grown (g := gb103) (o := .cells #[.int .i64 a1_0, .int .i64 a1_1] 42 (0, 0)) (by (with_reducible repeat (first | refine kN_ ?_ _ | refine k1_ ?_ | refine kA_ ?_ _)); exact BK103.out) hg (Kd.R_away HO_5.out (fun _ hk => hk.2.2))); have n2_ := Ad_.mk (hb); have n3_ := Ad_.mk (Kept.of_grown (S := (fun k_ => P0_ k_)) hg (by repeat (first | (with_reducible first | exact HK.out | apply Kept.alloc | apply Kept.drewN | apply Kept.drew | refine Kept.setCell ?_ (.inr GW103.out) _) | exact HK.out)) (fun k_ e_ => (HO_5.out.1 k_ e_).1)); have n4_ := Ad_.mk (ho); clear HO_0; clear BK103; clear HB; clear HK; clear HO_5; have HO_0 := n0_; have BK103 := n1_; have HB := n2_; have HK := n3_; have HO127 := n4_; clear n0_ n1_ n2_ n3_ n4_; clear ho hb hg hat; have p128 : 0 ≤ (x7_1 : Int) := od_; have q128 : x7_1 < (l0.length : Int) := od_; obtain ⟨ad128, e128, hx128_0, hx128_1⟩ := at_T42 (Kd.R_reads' HO_0.out).2.2 x7_1 p128 q128; obtain rfl : ad110 = ad128 := (by injection e128); replace p128 := eq_true p128; replace q128 := eq_true q128) | ((with_reducible refine gB_ (b := .append) (xs := #[.tmp 58, .tmp 63]) rfl ?_); at_builtin; refine Kd.R_append k42 (w0 := w0) w0.heap.size rfl (.tmp 58) (.tmp 63) 26 42 (.agg #[(.int .i64 0), (.int .i64 0)]) 16 rfl Try.underlying26 info42 rfl (by decide) (by omega) v126 y125 (⟨(rd_T42 l0 x7_1).f0, (rd_T42 l0 x7_1).f1⟩ : S42) [.int .i64 ((rd_T42 l0 x7_1).f0), .int .i64 ((rd_T42 l0 x7_1).f1)] (fun k_ => (P0_ k_ ∨ w.heap.size ≤ k_) ∧ some k_ ≠ (.slice (some ad110) l0.length co27 : Value).ownBlock ∧ k_ ≠ gb103) (fun _ => False) rfl rfl ?aP (fun _ hk => hk.elim) ?aF ?aO ?aB ?aS ?aL ?_; (case aP => exact k42_mkM _ _ _ (⟨(rd_T42 l0 x7_1).f0, (rd_T42 l0 x7_1).f1⟩ : S42)); (case aB => exact (by repeat (with_reducible first | exact HB.out | apply bA_ | apply bN_ | apply b1_ | refine bS_ ?_ GE103.out))); (case aF => exact (fun k_ hk => ⟨(.inr (Nat.le_trans (by first | exact HK.out.1 | exact (show Kept w _ (fun k_ => P0_ k_) from by repeat (first | (with_reducible first | exact HK.out | apply Kept.alloc | apply Kept.drewN | apply Kept.drew | refine Kept.setCell ?_ (.inr GW103.out) _) | exact HK.out)).1) hk)), Kd.fresh' (Kd.R_lt (by (with_reducible repeat (first | apply Kd.R_alloc | apply Kd.R_drewN | apply Kd.R_drew)); exact HO_0.out)) k_ hk, Kd.freshB (g := gb103) (o := .cells #[.int .i64 a1_0, .int .i64 a1_1] 42 (0, 0)) (by (with_reducible repeat (first | refine kN_ ?_ _ | refine k1_ ?_ | refine kA_ ?_ _)); exact BK103.out) k_ hk⟩)); (case aO => exact (by (with_reducible repeat (first | apply Kd.R_alloc | apply Kd.R_drewN | apply Kd.R_drew)); exact HO127.out)); (case aS => exact (bZ_ (by repeat (with_reducible first | exact HB.out | apply bA_ | apply bN_ | apply b1_ | refine bS_ ?_ GE103.out)))); (case aL => have := LMc26.out; omega); intro v130 w30 ho hb hg hat; rw [← Ny129.out] at ho; have n0_ := Ad_.mk (Kd.R_after (ok := (fun k_ => (P0_ k_ ∨ w.heap.size ≤ k_) ∧ k_ ≠ gb103)) (by (with_reducible repeat (first | apply Kd.R_alloc | apply Kd.R_drewN | apply Kd.R_drew)); exact HO_0.out) hg hat); have n1_ := Ad_.mk (blk_grown (g := gb103) (o := .cells #[.int .i64 a1_0, .int .i64 a1_1] 42 (0, 0)) (by (with_reducible repeat (first | refine kN_ ?_ _ | refine k1_ ?_ | refine kA_ ?_ _)); exact BK103.out) hg (Kd.R_away HO127.out (fun _ hk => hk.2.2))); have n2_ := Ad_.mk (hb); have n3_ := Ad_.mk (Kept.of_grown (S := (fun k_ => P0_ k_)) hg (by repeat (first | (with_reducible first | exact HK.out | apply Kept.alloc | apply Kept.drewN | apply Kept.drew | refine Kept.setCell ?_ (.inr GW103.out) _) | exact HK.out)) (fun k_ e_ => (HO127.out.1 k_ e_).1)); have n4_ := Ad_.mk (ho); clear HO_0; clear BK103; clear HB; clear HK; clear HO127; have HO_0 := n0_; have BK103 := n1_; have HB := n2_; have HK := n3_; have HO131 := n4_; clear n0_ n1_ n2_ n3_ n4_; clear ho hb hg hat)))
      go_roundg k1
      case measure => have := HK1.out; omega
      case rel => exact ⟨(y129), (true), (wrap64 (x7_1 + 1)), fs_, fs_, H', ⟨by have := HK1.out; omega⟩, ⟨by (with_reducible repeat (first | apply Kd.R_alloc | apply Kd.R_drewN | apply Kd.R_drew)); exact Kd.R_mono HO_0.out (fun _ hk => ⟨hk.1.1, ⟨hk.2, hk.1.2⟩⟩)⟩, ⟨by (with_reducible repeat (first | apply Kd.R_alloc | apply Kd.R_drewN | apply Kd.R_drew)); exact HO131.out⟩, ⟨by (with_reducible repeat (first | refine kN_ ?_ _ | refine k1_ ?_ | refine kA_ ?_ _)); exact BK103.out⟩, ⟨by repeat (first | (with_reducible first | exact HK.out | apply Kept.alloc | apply Kept.drewN | apply Kept.drew | refine Kept.setCell ?_ (.inr GW103.out) _) | exact HK.out)⟩, ⟨by repeat (with_reducible first | exact HB.out | apply bA_ | apply bN_ | apply b1_ | refine bS_ ?_ GE103.out)⟩⟩
end Go.Proofs.Ytfmlamheflbgdaa.PAll
end
section
namespace Go.Proofs.Ytfmlamheflbgdaa.PAll
open Go.RowKit Go.Proofs.YtfmlamheflbgdaaW.PrintWords Go.Proofs.YtfmlamheflbgdaaW.PrintLast Go.Proofs.YtfmlamheflbgdaaW.PrintMore
attribute [local go_sem] max2_int min2_int max_two min_two max_three min_three max_four min_four
set_option linter.unusedVariables false
set_option linter.unusedSimpArgs false
def spec_EdgesOf.l0 : Nat → List (S42) → Int → Int → ByteArray → Int → Int → List (S39) → Option ((List (S42)))
  | 0, _, _, _, _, _, _, _ => none
  | k + 1, x3, x4, x141000, x141001, x141002, x141003, x141004 => if x4 < (x141004.length : Int) then (if 0 ≤ x4 then (if ((rd_T39 x141004 x4).f0) = 1 then ((spec_l12Edge.f k x3 ((rd_T39 x141004 x4).f1) ((rd_T39 x141004 x4).f2)).bind fun t147 => (spec_EdgesOf.l0 k t147 (wrap64 (x4 + 1)) x141000 x141001 x141002 x141003 x141004)) else (spec_EdgesOf.l0 k x3 (wrap64 (x4 + 1)) x141000 x141001 x141002 x141003 x141004)) else (none)) else (some x3)
def spec_EdgesOf.f (k : Nat) (a0_0 : Int) (a0_1 : ByteArray) (a0_2 : Int) (a0_3 : Int) (l0_4 : List (S39)) : Option ((List (S42))) := spec_EdgesOf.l0 k (([] : List (S42))) 0 a0_0 a0_1 a0_2 a0_3 l0_4
def spec_EdgesOf.T6 : Bool × List (List Nat × List Nat) := (true, [([], []), ([], []), ([1], [1]), ([], []), ([2, 3], [2, 3]), ([4], [4]), ([5], [5]), ([], []), ([7], [7]), ([], []), ([8, 9], [8, 9]), ([10], [10]), ([11], [11]), ([6, 12], [6, 12]), ([0, 13], [0, 13]), ([14, 14, 0, 1, 2, 3, 4, 5, 6, 7, 8, 9, 10, 11, 12, 13, 14], [0, 14])])
def spec_EdgesOf.B6 : List Nat := [0, 0, 2, 0, 14, 30, 62, 0, 128, 0, 896, 1920, 3968, 8190, 16383, 32767]
theorem spec_EdgesOf.tab6 : rtab .any (opsOf Try.f5 6) = spec_EdgesOf.T6 := by kernel_rfl
theorem spec_EdgesOf.bits6 : waitsOk spec_EdgesOf.T6.2 spec_EdgesOf.B6 = true := by kernel_rfl
set_option maxHeartbeats 8000000 in
set_option maxRecDepth 100000 in
theorem spec_EdgesOf.calls (k : Nat) (a0_0 : Int) (a0_1 : ByteArray) (a0_2 : Int) (a0_3 : Int) (A0_4 : Option Addr) (c0_4 : Nat) (l0_4 : List (S39)) (r : List (S42)) (w : World) (hr0_4 : Kd.C k39 w A0_4 l0_4.length l0_4) (hc0_4 : l0_4.length ≤ c0_4) (h : spec_EdgesOf.f k a0_0 a0_1 a0_2 a0_3 l0_4 = some r) :
    Calls Try.prog 5 #[.agg #[.int .i64 a0_0, .string a0_1, .int .i64 a0_2, .int .i64 a0_3, .slice A0_4 l0_4.length c0_4]] w fun e w' => ∃ v0_ : Value, e = .returned (v0_) ∧ Kd.R k42 42 w' w.heap.size (fun _ => True) v0_ r ∧ Below w.heap.size w w' := by
  have hu30 := Try.underlying30
  have hu42 := Try.underlying42
  have HR0_4 := Ad_.mk hr0_4
  have HC0_4 := Ad_.mk hc0_4
  clear hr0_4 hc0_4
  have HB := Ad_.mk (Below.refl w.heap.size w)
  have H := h
  unfold spec_EdgesOf.f at H
  clear h
  obtain ⟨y141, hy141⟩ : ∃ y_ : List (S42), y_ = (([] : List (S42))) := ⟨_, rfl⟩
  replace H : (spec_EdgesOf.l0 k y141 0 a0_0 a0_1 a0_2 a0_3 l0_4) = some r := by first | (rw [hy141]; with_reducible exact H) | (have H2_ := (Option.bind_some _ _).symm.trans H; rw [hy141]; with_reducible exact H2_) | (have H2_ := (Option.bind_some _ _).symm.trans H; with_reducible exact H2_) | with_reducible exact H | (rw [hy141]; exact H) | exact H
  have Ny141 := Ad_.mk hy141
  clear hy141
  have H' := Ad_.mk H
  clear H
  go_enter Try.func5, Try.ntmps5
  go_wp2_with (first | ((with_reducible refine gD_ (N := 1) rfl ?_); refine bE_ ?hg (N := 1) ?hd (cs := #[.int .i64 a0_0, .string a0_1, .int .i64 a0_2, .int .i64 a0_3, .slice A0_4 l0_4.length c0_4]) (t := 30) ?hr ?_; (case hd => rfl); (case hg => rfl); (case hr => first | (go_simp; done) | (go_simp; rfl)); intro gb140 hg w2 hbox hb; have n0_ := Ad_.mk (bP_ (by repeat (with_reducible first | exact HB.out | apply bA_ | apply bN_ | apply b1_)) hb); have n1_ := Ad_.mk (hbox); have n2_ := Ad_.mk ((by rw [hg]; exact (bZ_ (by repeat (with_reducible first | exact HB.out | apply bA_ | apply bN_ | apply b1_))) : w.heap.size ≤ gb140)); have n3_ := Ad_.mk ((by rw [hg]; exact (bZ_ (by repeat (with_reducible first | exact HB.out | apply bA_ | apply bN_ | apply b1_))) : w.heap.size ≤ gb140)); clear HB; have HB := n0_; have BK140 := n1_; have GW140 := n2_; have GE140 := n3_; clear n0_ n1_ n2_ n3_; clear hb hbox hg) | ((with_reducible refine gD_ (N := 5) rfl ?_); refine Kd.R_lit k42 _ 42 ?hg (N := 5) ?hd (xs := ([] : List (S42))) (inner := []) (ok := fun _ => True) (okp := fun _ => True) ?hr ?hp (fun _ hk => hk) trivial (Below.refl _ _) (Nat.le_refl _) (by simp) ?_; (case hd => rfl); (case hg => rfl); (case hr => first | (go_simp; done) | (go_simp; rfl)); (case hp => exact (Reps.none _ _)); intro v142 w3 ho4 hb hg_ hnew_; clear hg_ hnew_; (first | rw [← Ny141.out] at ho4 | (simp only [Int.reduceToNat] at ho4; rw [← Ny141.out] at ho4)); have n0_ := Ad_.mk (Kd.R_lower ho4 (bZ_ (by repeat (with_reducible first | exact HB.out | apply bA_ | apply bN_ | apply b1_ | refine bS_ ?_ GE140.out)))); have n1_ := Ad_.mk (blk_below (g := gb140) (o := .cells #[.int .i64 a0_0, .string a0_1, .int .i64 a0_2, .int .i64 a0_3, .slice A0_4 l0_4.length c0_4] 30 (0, 0)) (by (with_reducible repeat (first | refine kN_ ?_ _ | refine k1_ ?_ | refine kA_ ?_ _)); exact BK140.out) hb); have n2_ := Ad_.mk (bP_ (by repeat (with_reducible first | exact HB.out | apply bA_ | apply bN_ | apply b1_ | refine bS_ ?_ GE140.out)) hb); clear BK140; clear HB; have HO143 := n0_; have BK140 := n1_; have HB := n2_; clear n0_ n1_ n2_; clear hb ho4))
  go_loopg [3, 4] k (fun kq v3 v4 w' => ∃ (x3_1 : List (S42)) (x4_1 : Int), v4 = .int .i64 x4_1 ∧ Ad_ (spec_EdgesOf.l0 kq x3_1 x4_1 a0_0 a0_1 a0_2 a0_3 l0_4 = some r) ∧ Ad_ (kq ≤ k) ∧ Ad_ (Kd.R k42 42 w' w.heap.size (fun _ => True) v3 x3_1) ∧ Ad_ (w'.heap[gb140]? = some (.cells #[.int .i64 a0_0, .string a0_1, .int .i64 a0_2, .int .i64 a0_3, (.slice A0_4 l0_4.length c0_4)] 30 (0, 0))) ∧ Ad_ (Below w.heap.size w w'))
  case atStart => exact ⟨(y141), (0), fs_, H', ⟨Nat.le_refl _⟩, ⟨by (with_reducible repeat (first | apply Kd.R_alloc | apply Kd.R_drewN | apply Kd.R_drew)); exact HO143.out⟩, ⟨by (with_reducible repeat (first | refine kN_ ?_ _ | refine k1_ ?_ | refine kA_ ?_ _)); exact BK140.out⟩, ⟨by repeat (with_reducible first | exact HB.out | apply bA_ | apply bN_ | apply b1_ | refine bS_ ?_ GE140.out)⟩⟩
  case round =>
    clear H'
    try clear p2
    obtain ⟨x3_1, x4_1, rfl, HA, HK1, HO_3, BK140, HB⟩ := hrel
    cases gk with
    | zero => exact absurd HA.out (by simp [spec_EdgesOf.l0])
    | succ k1 =>
      have H := HA.out
      clear HA
      simp only [spec_EdgesOf.l0] at H
      by_cases c5 : x4_1 < (l0_4.length : Int)
      rotate_left
      ·
       rw [if_neg c5] at H
       have c5b0 := decide_eq_false c5
       clear c5
       obtain rfl := Option.some.inj H
       obtain ⟨hcz14_0, hcz14_1, hcz14_2, hcz14_3, hcz14_4⟩ := cells5_ BK140.out
       obtain ⟨hfz14_0, hfz14_1, hfz14_2, hfz14_3, hfz14_4⟩ := froz5_ BK140.out
       go_wp2
       go_ret
       exact ⟨_, by first | rfl | (simp [errW_none, errW_some] <;> rfl) | (simp [*, errW_none, errW_some] <;> rfl), by (with_reducible repeat (first | apply Kd.R_alloc | apply Kd.R_drewN | apply Kd.R_drew)); exact HO_3.out, by repeat (with_reducible first | exact HB.out | apply bA_ | apply bN_ | apply b1_ | refine bS_ ?_ GE140.out)⟩
      rw [if_pos c5] at H
      have c5b0 := decide_eq_true c5
      clear c5
      by_cases c6 : 0 ≤ x4_1
      rotate_left
      ·
       rw [if_neg c6] at H
       exact absurd H (by simp)
      rw [if_pos c6] at H
      have c6b0 := decide_eq_true c6
      clear c6
      by_cases c7 : ((rd_T39 l0_4 x4_1).f0) = 1
      rotate_left
      ·
       rw [if_neg c7] at H
       have c7b0 : (((rd_T39 l0_4 x4_1).f0) == 1) = false := beq_eq_false_iff_ne.mpr c7
       have c7b1 : (((rd_T39 l0_4 x4_1).f0) != 1) = true := bne_iff_ne.mpr c7
       have H' := Ad_.mk H
       clear H
       obtain ⟨hcz13_0, hcz13_1, hcz13_2, hcz13_3, hcz13_4⟩ := cells5_ BK140.out
       obtain ⟨hfz13_0, hfz13_1, hfz13_2, hfz13_3, hfz13_4⟩ := froz5_ BK140.out
       have p144 : 0 ≤ (x4_1 : Int) := od_
       have q144 : x4_1 < (l0_4.length : Int) := od_
       obtain ⟨ad144, e144, hx144_0, hx144_1, hx144_2⟩ := at_T39 HR0_4.out x4_1 p144 q144
       cases e144
       replace hx144_0 := pB_ HB.out hx144_0
       replace hx144_1 := pB_ HB.out hx144_1
       replace hx144_2 := pB_ HB.out hx144_2
       replace p144 := eq_true p144
       replace q144 := eq_true q144
       go_wp2
       go_roundg k1
       case measure => have := HK1.out; omega
       case rel => exact ⟨(x3_1), (wrap64 (x4_1 + 1)), fs_, H', ⟨by have := HK1.out; omega⟩, ⟨by (with_reducible repeat (first | apply Kd.R_alloc | apply Kd.R_drewN | apply Kd.R_drew)); exact HO_3.out⟩, ⟨by (with_reducible repeat (first | refine kN_ ?_ _ | refine k1_ ?_ | refine kA_ ?_ _)); exact BK140.out⟩, ⟨by repeat (with_reducible first | exact HB.out | apply bA_ | apply bN_ | apply b1_ | refine bS_ ?_ GE140.out)⟩⟩
      rw [if_pos c7] at H
      have c7b0 : (((rd_T39 l0_4 x4_1).f0) == 1) = true := beq_iff_eq.mpr c7
      have c7b1 : (((rd_T39 l0_4 x4_1).f0) != 1) = false := bne_eq_false_iff_eq.mpr c7
      clear c7
      replace H := Option.bind_eq_some_iff.mp H
      obtain ⟨t147, A80, H⟩ := H
      try dsimp only at H
      have A8 := Ad_.mk A80
      clear A80
      have H' := Ad_.mk H
      clear H
      obtain ⟨hcz9_0, hcz9_1, hcz9_2, hcz9_3, hcz9_4⟩ := cells5_ BK140.out
      obtain ⟨hfz9_0, hfz9_1, hfz9_2, hfz9_3, hfz9_4⟩ := froz5_ BK140.out
      have p144 : 0 ≤ (x4_1 : Int) := od_
      have q144 : x4_1 < (l0_4.length : Int) := od_
      obtain ⟨ad144, e144, hx144_0, hx144_1, hx144_2⟩ := at_T39 HR0_4.out x4_1 p144 q144
      cases e144
      replace hx144_0 := pB_ HB.out hx144_0
      replace hx144_1 := pB_ HB.out hx144_1
      replace hx144_2 := pB_ HB.out hx144_2
      replace p144 := eq_true p144
      replace q144 := eq_true q144
      try go_wp2
      have n0_ := Ad_.mk (Kd.R_drew HO_3.out)
      have n1_ := Ad_.mk (k1_ BK140.out)
      have n2_ := Ad_.mk (b1_ HB.out)
      clear HO_3
      clear BK140
      clear HB
      have HO_3 := n0_
      have BK140 := n1_
      have HB := n2_
      clear n0_ n1_ n2_
      have p145 : 0 ≤ (x4_1 : Int) := od_
      have q145 : x4_1 < (l0_4.length : Int) := od_
      obtain ⟨ad145, e145, hx145_0, hx145_1, hx145_2⟩ := at_T39 HR0_4.out x4_1 p145 q145
      have hw145_2 := hx145_2
      have hw145_1 := hx145_1
      have hw145_0 := hx145_0
      obtain rfl : ad144 = ad145 := (by injection e145)
      replace hx145_0 := pB_ HB.out hx145_0
      replace hx145_1 := pB_ HB.out hx145_1
      replace hx145_2 := pB_ HB.out hx145_2
      replace p145 := eq_true p145
      replace q145 := eq_true q145
      have p146 : 0 ≤ (x4_1 : Int) := od_
      have q146 : x4_1 < (l0_4.length : Int) := od_
      obtain ⟨ad146, e146, hx146_0, hx146_1, hx146_2⟩ := at_T39 HR0_4.out x4_1 p146 q146
      have hw146_2 := hx146_2
      have hw146_1 := hx146_1
      have hw146_0 := hx146_0
      obtain rfl : ad144 = ad146 := (by injection e146)
      replace hx146_0 := pB_ HB.out hx146_0
      replace hx146_1 := pB_ HB.out hx146_1
      replace hx146_2 := pB_ HB.out hx146_2
      replace p146 := eq_true p146
      replace q146 := eq_true q146
      obtain ⟨Ao11, co11, eo11⟩ := Kd.R_slice HO_3.out
      (first | subst eo11 | (injection eo11 with f1_ f2_ f3_; have f4_ := f1_.symm; have f5_ := f3_.symm; clear f1_ f2_ f3_; subst f4_; subst f5_))
      refine start_ (n := 16) (S := fun w' => w'.cell? ⟨gb140, 0, none⟩ = some (.int .i64 a0_0) ∧ w'.cell? ⟨gb140, 1, none⟩ = some (.string a0_1) ∧ w'.cell? ⟨gb140, 2, none⟩ = some (.int .i64 a0_2) ∧ w'.cell? ⟨gb140, 3, none⟩ = some (.int .i64 a0_3) ∧ w'.cell? ⟨gb140, 4, none⟩ = some (.slice (some ad144) l0_4.length c0_4) ∧ w'.cell? (ad144.add ((x4_1).toNat * 3)) = some (.int .i64 ((rd_T39 l0_4 x4_1).f0)) ∧ w'.cell? ⟨(ad144.add ((x4_1).toNat * 3)).block, (ad144.add ((x4_1).toNat * 3)).off + 1, none⟩ = some (.int .i64 ((rd_T39 l0_4 x4_1).f1)) ∧ w'.cell? ⟨(ad144.add ((x4_1).toNat * 3)).block, (ad144.add ((x4_1).toNat * 3)).off + 2, none⟩ = some (.int .i64 ((rd_T39 l0_4 x4_1).f2)) ∧ w'.cell? (ad144.add ((x4_1).toNat * 3)) = some (.int .i64 ((rd_T39 l0_4 x4_1).f0)) ∧ w'.cell? ⟨(ad144.add ((x4_1).toNat * 3)).block, (ad144.add ((x4_1).toNat * 3)).off + 1, none⟩ = some (.int .i64 ((rd_T39 l0_4 x4_1).f1)) ∧ w'.cell? ⟨(ad144.add ((x4_1).toNat * 3)).block, (ad144.add ((x4_1).toNat * 3)).off + 2, none⟩ = some (.int .i64 ((rd_T39 l0_4 x4_1).f2))) (ds := []) #[fb_,fb_,fb_,fb_,fb_,fb_,fb_,fb_,fb_,fb_,fb_,fb_,fb_,fb_,fb_,fb_] (by kernel_rfl) rfl rfl ⟨(kC_ BK140.out 0).trans rfl, (kC_ BK140.out 1).trans rfl, (kC_ BK140.out 2).trans rfl, (kC_ BK140.out 3).trans rfl, (kC_ BK140.out 4).trans rfl, ((HB.out.cell (World.block_lt_of_cell? w _ hw145_0)).trans hw145_0), ((HB.out.cell (World.block_lt_of_cell? w _ hw145_1)).trans hw145_1), ((HB.out.cell (World.block_lt_of_cell? w _ hw145_2)).trans hw145_2), ((HB.out.cell (World.block_lt_of_cell? w _ hw146_0)).trans hw146_0), ((HB.out.cell (World.block_lt_of_cell? w _ hw146_1)).trans hw146_1), ((HB.out.cell (World.block_lt_of_cell? w _ hw146_2)).trans hw146_2)⟩ (fun hHeld => ?_); refine with_tabW spec_EdgesOf.tab6 spec_EdgesOf.bits6 (fun HT_ HW_ => ?_)
      generalize wr.drew = w10 at HO_3 BK140 HB hx145_0 hx145_1 hx145_2 hx146_0 hx146_1 hx146_2 hHeld ⊢
      refine pu_ (i := 0) (N := some 20) #[tb_,fb_,fb_,fb_,fb_,fb_,fb_,fb_,fb_,fb_,fb_,fb_,fb_,fb_,fb_,fb_] (any_of HT_.out (by kernel_rfl)) ?_
      refine pu_ (i := 1) (N := some 21) #[tb_,tb_,fb_,fb_,fb_,fb_,fb_,fb_,fb_,fb_,fb_,fb_,fb_,fb_,fb_,fb_] (any_of HT_.out (by kernel_rfl)) ?_
      refine pu_ (i := 3) (N := some 23) #[tb_,tb_,fb_,tb_,fb_,fb_,fb_,fb_,fb_,fb_,fb_,fb_,fb_,fb_,fb_,fb_] (any_of HT_.out (by kernel_rfl)) ?_
      refine pu_ (i := 7) (N := some 27) #[tb_,tb_,fb_,tb_,fb_,fb_,fb_,tb_,fb_,fb_,fb_,fb_,fb_,fb_,fb_,fb_] (any_of HT_.out (by kernel_rfl)) ?_
      refine pu_ (i := 9) (N := some 29) #[tb_,tb_,fb_,tb_,fb_,fb_,fb_,tb_,fb_,tb_,fb_,fb_,fb_,fb_,fb_,fb_] (any_of HT_.out (by kernel_rfl)) ?_
      refine take_ (i := 2) (N := some 22) (v := ?_) (a' := ?_) #[tb_,tb_,tb_,tb_,fb_,fb_,fb_,tb_,fb_,tb_,fb_,fb_,fb_,fb_,fb_,fb_] rfl rfl (take_ofW HT_.out HW_.out (by kernel_rfl)) (fun _ _ _ h => h) (Or.inl ⟨by rfl, ?_⟩) hHeld ?_ ?_
      rotate_left
      ·
       rintro w' ⟨s0, s1, s2, s3, s4, s5, s6, s7, s8, s9, s10⟩
       go_simp
       with_reducible rfl
      rotate_left
      ·
       simp only [Act.put, List.setIfInBounds_toArray, List.set_cons_zero, List.set_cons_succ, i64_w, i32_w]
       rfl
      refine pu_ (i := 4) (N := some 24) #[tb_,tb_,tb_,tb_,tb_,fb_,fb_,tb_,fb_,tb_,fb_,fb_,fb_,fb_,fb_,fb_] (any_of HT_.out (by kernel_rfl)) ?_
      refine pu_ (i := 5) (N := some 25) #[tb_,tb_,tb_,tb_,tb_,tb_,fb_,tb_,fb_,tb_,fb_,fb_,fb_,fb_,fb_,fb_] (any_of HT_.out (by kernel_rfl)) ?_
      refine take_ (i := 6) (N := some 26) (v := ?_) (a' := ?_) #[tb_,tb_,tb_,tb_,tb_,tb_,tb_,tb_,fb_,tb_,fb_,fb_,fb_,fb_,fb_,fb_] rfl rfl (take_ofW HT_.out HW_.out (by kernel_rfl)) (fun _ _ _ h => h) (Or.inl ⟨by rfl, ?_⟩) hHeld ?_ ?_
      rotate_left
      ·
       rintro w' ⟨s0, s1, s2, s3, s4, s5, s6, s7, s8, s9, s10⟩
       go_simp
       with_reducible rfl
      rotate_left
      ·
       simp only [Act.put, List.setIfInBounds_toArray, List.set_cons_zero, List.set_cons_succ, i64_w, i32_w]
       rfl
      refine take_ (i := 8) (N := some 28) (v := ?_) (a' := ?_) #[tb_,tb_,tb_,tb_,tb_,tb_,tb_,tb_,tb_,tb_,fb_,fb_,fb_,fb_,fb_,fb_] rfl rfl (take_ofW HT_.out HW_.out (by kernel_rfl)) (fun _ _ _ h => h) (Or.inl ⟨by rfl, ?_⟩) hHeld ?_ ?_
      rotate_left
      ·
       rintro w' ⟨s0, s1, s2, s3, s4, s5, s6, s7, s8, s9, s10⟩
       go_simp
       with_reducible rfl
      rotate_left
      ·
       simp only [Act.put, List.setIfInBounds_toArray, List.set_cons_zero, List.set_cons_succ, i64_w, i32_w]
       rfl
      refine pu_ (i := 10) (N := some 30) #[tb_,tb_,tb_,tb_,tb_,tb_,tb_,tb_,tb_,tb_,tb_,fb_,fb_,fb_,fb_,fb_] (any_of HT_.out (by kernel_rfl)) ?_
      refine pu_ (i := 11) (N := some 31) #[tb_,tb_,tb_,tb_,tb_,tb_,tb_,tb_,tb_,tb_,tb_,tb_,fb_,fb_,fb_,fb_] (any_of HT_.out (by kernel_rfl)) ?_
      refine take_ (i := 12) (N := some 32) (v := ?_) (a' := ?_) #[tb_,tb_,tb_,tb_,tb_,tb_,tb_,tb_,tb_,tb_,tb_,tb_,tb_,fb_,fb_,fb_] rfl rfl (take_ofW HT_.out HW_.out (by kernel_rfl)) (fun _ _ _ h => h) (Or.inl ⟨by rfl, ?_⟩) hHeld ?_ ?_
      rotate_left
      ·
       rintro w' ⟨s0, s1, s2, s3, s4, s5, s6, s7, s8, s9, s10⟩
       go_simp
       with_reducible rfl
      rotate_left
      ·
       simp only [Act.put, List.setIfInBounds_toArray, List.set_cons_zero, List.set_cons_succ, i64_w, i32_w]
       rfl
      refine pu_ (i := 13) (N := some 33) #[tb_,tb_,tb_,tb_,tb_,tb_,tb_,tb_,tb_,tb_,tb_,tb_,tb_,tb_,fb_,fb_] (any_of HT_.out (by kernel_rfl)) ?_
      refine one_ (i := 14) (N := some 34) #[tb_,tb_,tb_,tb_,tb_,tb_,tb_,tb_,tb_,tb_,tb_,tb_,tb_,tb_,tb_,fb_] rfl rfl (one_of HT_.out (by kernel_rfl)) (by decide) (fun K hK => ?_)
      refine goes_ Try.func14 (by kernel_rfl) rfl #[.slice Ao11 x3_1.length co11, .agg #[.int .i64 ((rd_T39 l0_4 x4_1).f1), .int .i64 ((rd_T39 l0_4 x4_1).f2)]] (by rfl) rfl rfl (by (try simp only [List.map_toArray, List.map_cons, List.map_nil]); first | done | rfl | (simp only [List.length_drop, List.length_take]; rfl)) ?_
      with_reducible refine (spec_l12Edge.calls k1 (fun k_ => some k_ = (.slice Ao11 x3_1.length co11 : Value).ownBlock) (.slice Ao11 x3_1.length co11) x3_1 ((rd_T39 l0_4 x4_1).f1) ((rd_T39 l0_4 x4_1).f2) t147 w _ ?side1 ?side2 A8.out).mono ?_
      (case side1 => repeat (with_reducible first | exact HB.out | apply bA_ | apply bN_ | apply b1_ | refine bS_ ?_ GE140.out))
      (case side2 => exact Kd.R_tight rfl HO_3.out)
      rintro e w12 ⟨v148, rfl, ho0, hb, hkp⟩
      refine ⟨_, rfl, ?_⟩
      have n0_ := Ad_.mk (blk_kept (by (with_reducible repeat (first | refine kN_ ?_ _ | refine k1_ ?_ | refine kA_ ?_ _)); exact BK140.out) hkp (fun hs_ => (fun e_ => (Kd.R_ne HO_3.out BK140.out (by decide)) e_) hs_))
      have n1_ := Ad_.mk (Kd.R_mono (ok' := fun k_ => True) ho0 (fun k_ hk_ => trivial))
      have n2_ := Ad_.mk (hb)
      clear BK140
      clear HB
      clear HO_3
      have BK140 := n0_
      have HO149 := n1_
      have HB := n2_
      clear n0_ n1_ n2_
      (try clear hb)
      (try clear hkp)
      (try clear ho0)
      refine hK.out _ _ ⟨(kC_ BK140.out 0).trans rfl, (kC_ BK140.out 1).trans rfl, (kC_ BK140.out 2).trans rfl, (kC_ BK140.out 3).trans rfl, (kC_ BK140.out 4).trans rfl, ((HB.out.cell (World.block_lt_of_cell? w _ hw145_0)).trans hw145_0), ((HB.out.cell (World.block_lt_of_cell? w _ hw145_1)).trans hw145_1), ((HB.out.cell (World.block_lt_of_cell? w _ hw145_2)).trans hw145_2), ((HB.out.cell (World.block_lt_of_cell? w _ hw146_0)).trans hw146_0), ((HB.out.cell (World.block_lt_of_cell? w _ hw146_1)).trans hw146_1), ((HB.out.cell (World.block_lt_of_cell? w _ hw146_2)).trans hw146_2)⟩ (fun hHeld => ?_)
      clear hK K
      refine norm_ (a' := ?_) ?_ ?_
      rotate_left
      ·
       show Act.put _ (some 34) _ = _
       simp only [Act.put, List.setIfInBounds_toArray, List.set_cons_zero, List.set_cons_succ, i64_w, i32_w]
       rfl
      refine pu_ (i := 15) (N := some 3) #[tb_,tb_,tb_,tb_,tb_,tb_,tb_,tb_,tb_,tb_,tb_,tb_,tb_,tb_,tb_,tb_] (any_of HT_.out (by kernel_rfl)) ?_
      refine done_ (done_of HT_.out (by kernel_rfl)) ?_
      try go_wp2
      go_roundg k1
      case measure => have := HK1.out; omega
      case rel => exact ⟨(t147), (wrap64 (x4_1 + 1)), fs_, H', ⟨by have := HK1.out; omega⟩, ⟨by (with_reducible repeat (first | apply Kd.R_alloc | apply Kd.R_drewN | apply Kd.R_drew)); exact HO149.out⟩, ⟨by (with_reducible repeat (first | refine kN_ ?_ _ | refine k1_ ?_ | refine kA_ ?_ _)); exact BK140.out⟩, ⟨by repeat (with_reducible first | exact HB.out | apply bA_ | apply bN_ | apply b1_ | refine bS_ ?_ GE140.out)⟩⟩
def laws_toEvent.f (a0_0 : Int) (a0_1 : Int) (a0_2 : Int) : Option (Int × Int × Int) := some (a0_0, a0_1, a0_2)
set_option maxHeartbeats 8000000 in
set_option maxRecDepth 100000 in
theorem laws_toEvent.calls (a0_0 : Int) (a0_1 : Int) (a0_2 : Int) (r1 : Int) (r2 : Int) (r3 : Int) (w : World) (h : laws_toEvent.f a0_0 a0_1 a0_2 = some (r1, r2, r3)) :
    Calls Try.prog 20 #[.agg #[.int .i64 a0_0, .int .i64 a0_1, .int .i64 a0_2]] w fun e w' => e = .returned (.agg #[.int .i64 r1, .int .i64 r2, .int .i64 r3]) ∧ Below w.heap.size w w' := by
  have hu49 := Try.underlying49
  have hu39 := Try.underlying39
  have HB := Ad_.mk (Below.refl w.heap.size w)
  have H : (some (a0_0, a0_1, a0_2)) = some (r1, r2, r3) := h
  clear h
  simp only [Option.some.injEq, Prod.mk.injEq] at H
  obtain ⟨rfl, rfl, rfl⟩ := H
  go_enter Try.func20, Try.ntmps20
  go_wp2_with (first | ((with_reducible refine gD_ (N := 1) rfl ?_); refine bE_ ?hg (N := 1) ?hd (cs := #[.int .i64 a0_0, .int .i64 a0_1, .int .i64 a0_2]) (t := 49) ?hr ?_; (case hd => rfl); (case hg => rfl); (case hr => first | (go_simp; done) | (go_simp; rfl)); intro gb150 hg w2 hbox hb; have n0_ := Ad_.mk (bP_ (by repeat (with_reducible first | exact HB.out | apply bA_ | apply bN_ | apply b1_)) hb); have n1_ := Ad_.mk (hbox); have n2_ := Ad_.mk ((by rw [hg]; exact (bZ_ (by repeat (with_reducible first | exact HB.out | apply bA_ | apply bN_ | apply b1_))) : w.heap.size ≤ gb150)); have n3_ := Ad_.mk ((by rw [hg]; exact (bZ_ (by repeat (with_reducible first | exact HB.out | apply bA_ | apply bN_ | apply b1_))) : w.heap.size ≤ gb150)); clear HB; have HB := n0_; have BK150 := n1_; have GW150 := n2_; have GE150 := n3_; clear n0_ n1_ n2_ n3_; clear hb hbox hg) | ((with_reducible refine gD_ (N := 2) rfl ?_); refine bE_ ?hg (N := 2) ?hd (cs := #[.int .i64 0, .int .i64 0, .int .i64 0]) (t := 39) ?hr ?_; (case hd => rfl); (case hg => rfl); (case hr => first | (go_simp; done) | (go_simp; rfl)); intro gb151 hg w3 hbox hb; have n0_ := Ad_.mk (blk_below (g := gb150) (o := .cells #[.int .i64 a0_0, .int .i64 a0_1, .int .i64 a0_2] 49 (0, 0)) (by (with_reducible repeat (first | refine kN_ ?_ _ | refine k1_ ?_ | refine kA_ ?_ _)); exact BK150.out) hb); have n1_ := Ad_.mk (bP_ (by repeat (with_reducible first | exact HB.out | apply bA_ | apply bN_ | apply b1_ | refine bS_ ?_ GE150.out)) hb); have n2_ := Ad_.mk (hbox); have n3_ := Ad_.mk ((by rw [hg]; exact (bZ_ (by repeat (with_reducible first | exact HB.out | apply bA_ | apply bN_ | apply b1_ | refine bS_ ?_ GE150.out))) : w.heap.size ≤ gb151)); have n4_ := Ad_.mk ((by rw [hg]; exact (bZ_ (by repeat (with_reducible first | exact HB.out | apply bA_ | apply bN_ | apply b1_ | refine bS_ ?_ GE150.out))) : w.heap.size ≤ gb151)); have n5_ := Ad_.mk ((by rw [hg]; exact Nat.ne_of_lt (blk_lt (g := gb150) (o := .cells #[.int .i64 a0_0, .int .i64 a0_1, .int .i64 a0_2] 49 (0, 0)) (by (with_reducible repeat (first | refine kN_ ?_ _ | refine k1_ ?_ | refine kA_ ?_ _)); exact BK150.out)) : gb150 ≠ gb151)); have n6_ := Ad_.mk ((by rw [hg]; exact Nat.ne_of_gt (blk_lt (g := gb150) (o := .cells #[.int .i64 a0_0, .int .i64 a0_1, .int .i64 a0_2] 49 (0, 0)) (by (with_reducible repeat (first | refine kN_ ?_ _ | refine k1_ ?_ | refine kA_ ?_ _)); exact BK150.out)) : gb151 ≠ gb150)); clear BK150; clear HB; have BK150 := n0_; have HB := n1_; have BK151 := n2_; have GW151 := n3_; have GE151 := n4_; have NB150_151 := n5_; have NB151_150 := n6_; clear n0_ n1_ n2_ n3_ n4_ n5_ n6_; clear hb hbox hg) | ((with_reducible refine gD_ (N := 3) rfl ?_); refine bE_ ?hg (N := 3) ?hd (cs := #[.int .i64 0, .int .i64 0, .int .i64 0]) (t := 39) ?hr ?_; (case hd => rfl); (case hg => rfl); (case hr => first | (go_simp; done) | (go_simp; rfl)); intro gb152 hg w4 hbox hb; have n0_ := Ad_.mk (blk_below (g := gb150) (o := .cells #[.int .i64 a0_0, .int .i64 a0_1, .int .i64 a0_2] 49 (0, 0)) (by (with_reducible repeat (first | refine kN_ ?_ _ | refine k1_ ?_ | refine kA_ ?_ _)); exact BK150.out) hb); have n1_ := Ad_.mk (blk_below (g := gb151) (o := .cells #[.int .i64 0, .int .i64 0, .int .i64 0] 39 (0, 0)) (by (with_reducible repeat (first | refine kN_ ?_ _ | refine k1_ ?_ | refine kA_ ?_ _)); exact BK151.out) hb); have n2_ := Ad_.mk (bP_ (by repeat (with_reducible first | exact HB.out | apply bA_ | apply bN_ | apply b1_ | refine bS_ ?_ GE150.out | refine bS_ ?_ GE151.out)) hb); have n3_ := Ad_.mk (hbox); have n4_ := Ad_.mk ((by rw [hg]; exact (bZ_ (by repeat (with_reducible first | exact HB.out | apply bA_ | apply bN_ | apply b1_ | refine bS_ ?_ GE150.out | refine bS_ ?_ GE151.out))) : w.heap.size ≤ gb152)); have n5_ := Ad_.mk ((by rw [hg]; exact (bZ_ (by repeat (with_reducible first | exact HB.out | apply bA_ | apply bN_ | apply b1_ | refine bS_ ?_ GE150.out | refine bS_ ?_ GE151.out))) : w.heap.size ≤ gb152)); have n6_ := Ad_.mk ((by rw [hg]; exact Nat.ne_of_lt (blk_lt (g := gb150) (o := .cells #[.int .i64 a0_0, .int .i64 a0_1, .int .i64 a0_2] 49 (0, 0)) (by (with_reducible repeat (first | refine kN_ ?_ _ | refine k1_ ?_ | refine kA_ ?_ _)); exact BK150.out)) : gb150 ≠ gb152)); have n7_ := Ad_.mk ((by rw [hg]; exact Nat.ne_of_gt (blk_lt (g := gb150) (o := .cells #[.int .i64 a0_0, .int .i64 a0_1, .int .i64 a0_2] 49 (0, 0)) (by (with_reducible repeat (first | refine kN_ ?_ _ | refine k1_ ?_ | refine kA_ ?_ _)); exact BK150.out)) : gb152 ≠ gb150)); have n8_ := Ad_.mk ((by rw [hg]; exact Nat.ne_of_lt (blk_lt (g := gb151) (o := .cells #[.int .i64 0, .int .i64 0, .int .i64 0] 39 (0, 0)) (by (with_reducible repeat (first | refine kN_ ?_ _ | refine k1_ ?_ | refine kA_ ?_ _)); exact BK151.out)) : gb151 ≠ gb152)); have n9_ := Ad_.mk ((by rw [hg]; exact Nat.ne_of_gt (blk_lt (g := gb151) (o := .cells #[.int .i64 0, .int .i64 0, .int .i64 0] 39 (0, 0)) (by (with_reducible repeat (first | refine kN_ ?_ _ | refine k1_ ?_ | refine kA_ ?_ _)); exact BK151.out)) : gb152 ≠ gb151)); clear BK150; clear BK151; clear HB; have BK150 := n0_; have BK151 := n1_; have HB := n2_; have BK152 := n3_; have GW152 := n4_; have GE152 := n5_; have NB150_152 := n6_; have NB152_150 := n7_; have NB151_152 := n8_; have NB152_151 := n9_; clear n0_ n1_ n2_ n3_ n4_ n5_ n6_ n7_ n8_ n9_; clear hb hbox hg; have hnb5 := NB150_151.out; have hnc5 := NB151_150.out; have hnb6 := NB150_152.out; have hnc6 := NB152_150.out; obtain ⟨hcz7_0, hcz7_1, hcz7_2⟩ := cells3_ BK150.out; obtain ⟨hfz7_0, hfz7_1, hfz7_2⟩ := froz3_ BK150.out; have hnb8 := NB152_151.out; have hnc8 := NB151_152.out; obtain ⟨hcz9_0, hcz9_1, hcz9_2⟩ := cells3_ BK152.out; obtain ⟨hfz9_0, hfz9_1, hfz9_2⟩ := froz3_ BK152.out; obtain ⟨hcz10_0, hcz10_1, hcz10_2⟩ := cells3_ BK151.out; obtain ⟨hfz10_0, hfz10_1, hfz10_2⟩ := froz3_ BK151.out))
  refine bodyPost_ret (results_cell_row rfl _ _ gb151 39 #[.int .i64 a0_0, .int .i64 a0_1, .int .i64 a0_2] (0, 0) _ rfl (by (with_reducible repeat (first | refine kN_ ?_ _ | refine k1_ ?_ | refine kA_ ?_ _)); refine blk_put (cs := #[.int .i64 a0_0, .int .i64 a0_1, .int .i64 0]) ?_ 2 _ rfl; (with_reducible repeat (first | refine kN_ ?_ _ | refine k1_ ?_ | refine kA_ ?_ _)); refine blk_put (cs := #[.int .i64 a0_0, .int .i64 0, .int .i64 0]) ?_ 1 _ rfl; (with_reducible repeat (first | refine kN_ ?_ _ | refine k1_ ?_ | refine kA_ ?_ _)); refine blk_put (cs := #[.int .i64 0, .int .i64 0, .int .i64 0]) ?_ 0 _ rfl; (with_reducible repeat (first | refine kN_ ?_ _ | refine k1_ ?_ | refine kA_ ?_ _)); refine blk_far ?_ NB151_152.out _; (with_reducible repeat (first | refine kN_ ?_ _ | refine k1_ ?_ | refine kA_ ?_ _)); refine blk_far ?_ NB151_152.out _; (with_reducible repeat (first | refine kN_ ?_ _ | refine k1_ ?_ | refine kA_ ?_ _)); refine blk_far ?_ NB151_152.out _; (with_reducible repeat (first | refine kN_ ?_ _ | refine k1_ ?_ | refine kA_ ?_ _)); exact BK151.out) Try.underlying39 rfl (by kernel_rfl)) rfl ?_
  exact ⟨by first | rfl | (simp [errW_none, errW_some] <;> rfl) | (simp [*, errW_none, errW_some] <;> rfl), by repeat (with_reducible first | exact HB.out | apply bA_ | apply bN_ | apply b1_ | refine bS_ ?_ GE150.out | refine bS_ ?_ GE151.out | refine bS_ ?_ GE152.out)⟩
end Go.Proofs.Ytfmlamheflbgdaa.PAll
end
section
namespace Go.Proofs.Ytfmlamheflbgdaa.PAll
open Go.RowKit Go.Proofs.YtfmlamheflbgdaaW.PrintWords Go.Proofs.YtfmlamheflbgdaaW.PrintLast Go.Proofs.YtfmlamheflbgdaaW.PrintMore
attribute [local go_sem] max2_int min2_int max_two min_two max_three min_three max_four min_four
set_option linter.unusedVariables false
set_option linter.unusedSimpArgs false
def laws_toEventS.l0 : Nat → List (S49) → List (S39) → Int → Option ((List (S39)))
  | 0, _, _, _ => none
  | k + 1, x0, x3, x4 => if x4 < (x0.length : Int) then (if 0 ≤ x4 then ((laws_toEvent.f ((rd_T49 x0 x4).f0) ((rd_T49 x0 x4).f1) ((rd_T49 x0 x4).f2)).bind fun bt157 => (if x4 < (x3.length : Int) then (laws_toEventS.l0 k x0 (x3.set (x4 : Int).toNat (⟨bt157.1, bt157.2.1, bt157.2.2⟩ : S39)) (wrap64 (x4 + 1))) else (none))) else (none)) else (some x3)
def laws_toEventS.f (k : Nat) (l0 : List (S49)) : Option ((List (S39))) := if 0 ≤ (l0.length : Int) then (if ((l0.length : Int) : Int).toNat ≤ 11728124029610 then (laws_toEventS.l0 k l0 (List.replicate ((l0.length : Int) : Int).toNat z39) 0) else (none)) else (none)
set_option maxHeartbeats 8000000 in
set_option maxRecDepth 100000 in
theorem laws_toEventS.calls (k : Nat) (A0 : Option Addr) (c0 : Nat) (l0 : List (S49)) (r : List (S39)) (w : World) (hr0 : Kd.C k49 w A0 l0.length l0) (hc0 : l0.length ≤ c0) (h : laws_toEventS.f k l0 = some r) :
    Calls Try.prog 15 #[.slice A0 l0.length c0] w fun e w' => ∃ v0_ : Value, e = .returned (v0_) ∧ Kd.R k39 39 w' w.heap.size (fun _ => True) v0_ r ∧ Below w.heap.size w w' := by
  have hu49 := Try.underlying49
  have hu39 := Try.underlying39
  have HR0 := Ad_.mk hr0
  have HC0 := Ad_.mk hc0
  clear hr0 hc0
  have HB := Ad_.mk (Below.refl w.heap.size w)
  have H := h
  unfold laws_toEventS.f at H
  clear h
  by_cases c2 : 0 ≤ (l0.length : Int)
  rotate_left
  ·
   rw [if_neg c2] at H
   exact absurd H (by simp)
  rw [if_pos c2] at H
  have c2b0 := eq_true c2
  have c2b1 := decide_eq_true c2
  clear c2
  by_cases c3 : ((l0.length : Int) : Int).toNat ≤ 11728124029610
  rotate_left
  ·
   rw [if_neg c3] at H
   exact absurd H (by simp)
  rw [if_pos c3] at H
  have c3b0 := eq_true c3
  have c3b1 := decide_eq_true c3
  clear c3
  obtain ⟨y153, hy153⟩ : ∃ y_ : List (S39), y_ = (List.replicate ((l0.length : Int) : Int).toNat z39) := ⟨_, rfl⟩
  replace H : (laws_toEventS.l0 k l0 y153 0) = some r := by first | (rw [hy153]; with_reducible exact H) | (have H2_ := (Option.bind_some _ _).symm.trans H; rw [hy153]; with_reducible exact H2_) | (have H2_ := (Option.bind_some _ _).symm.trans H; with_reducible exact H2_) | with_reducible exact H | (rw [hy153]; exact H) | exact H
  have Ny153 := Ad_.mk hy153
  clear hy153
  have H' := Ad_.mk H
  clear H
  go_enter Try.func15, Try.ntmps15
  go_wp2_with (first | ((with_reducible refine gD_ (N := 7) rfl ?_); refine Kd.R_make k39 _ 39 rfl (N := 7) rfl 28 _ _ rfl (l0.length : Int) rfl rfl Try.underlying28 (.agg #[(.int .i64 0), (.int .i64 0), (.int .i64 0)]) 24 info39 rfl (by decide) (by omega) z39 (ok := fun _ => True) (okp := fun _ => True) (k39_mkM _ _ _ z39 ) (fun _ hk => hk) trivial (od_) (Nat.le_trans (Nat.mul_le_mul_right _ (od_ : (l0.length : Int).toNat ≤ 11728124029610)) (by omega)) (Below.refl _ _) (Nat.le_refl _) ?_; intro v154 w4 ho5 hb hg_ hnew_; clear hg_ hnew_; (first | rw [← Ny153.out] at ho5 | (simp only [Int.reduceToNat] at ho5; rw [← Ny153.out] at ho5)); have n0_ := Ad_.mk (Kd.R_lower ho5 (bZ_ (by repeat (with_reducible first | exact HB.out | apply bA_ | apply bN_ | apply b1_)))); have n1_ := Ad_.mk (bP_ (by repeat (with_reducible first | exact HB.out | apply bA_ | apply bN_ | apply b1_)) hb); clear HB; have HO155 := n0_; have HB := n1_; clear n0_ n1_; clear hb ho5))
  go_loopg [4] k (fun kq v4 w' => ∃ (x3_1 : List (S39)) (x4_1 : Int), v4 = .int .i64 x4_1 ∧ Ad_ (laws_toEventS.l0 kq l0 x3_1 x4_1 = some r) ∧ Ad_ (kq ≤ k) ∧ Ad_ (Kd.R k39 39 w' w.heap.size (fun _ => True) v154 x3_1) ∧ Ad_ (Below w.heap.size w w'))
  case atStart => exact ⟨(y153), (0), fs_, H', ⟨Nat.le_refl _⟩, ⟨by (with_reducible repeat (first | apply Kd.R_alloc | apply Kd.R_drewN | apply Kd.R_drew)); exact HO155.out⟩, ⟨by repeat (with_reducible first | exact HB.out | apply bA_ | apply bN_ | apply b1_)⟩⟩
  case round =>
    clear H'
    try clear c2b0 c2b1
    try clear p2
    try clear c3b0 c3b1
    obtain ⟨x3_1, x4_1, rfl, HA, HK1, HO_3, HB⟩ := hrel
    cases gk with
    | zero => exact absurd HA.out (by simp [laws_toEventS.l0])
    | succ k1 =>
      have H := HA.out
      clear HA
      simp only [laws_toEventS.l0] at H
      by_cases c6 : x4_1 < (l0.length : Int)
      rotate_left
      ·
       rw [if_neg c6] at H
       have c6b0 := decide_eq_false c6
       clear c6
       obtain rfl := Option.some.inj H
       go_wp2
       go_ret
       exact ⟨_, by first | rfl | (simp [errW_none, errW_some] <;> rfl) | (simp [*, errW_none, errW_some] <;> rfl), by (with_reducible repeat (first | apply Kd.R_alloc | apply Kd.R_drewN | apply Kd.R_drew)); exact HO_3.out, by repeat (with_reducible first | exact HB.out | apply bA_ | apply bN_ | apply b1_)⟩
      rw [if_pos c6] at H
      have c6b0 := decide_eq_true c6
      clear c6
      by_cases c7 : 0 ≤ x4_1
      rotate_left
      ·
       rw [if_neg c7] at H
       exact absurd H (by simp)
      rw [if_pos c7] at H
      have c7b0 := decide_eq_true c7
      clear c7
      replace H := Option.bind_eq_some_iff.mp H
      obtain ⟨⟨t157, t158, t159⟩, A80, H⟩ := H
      try dsimp only at H
      have A8 := Ad_.mk A80
      clear A80
      by_cases c9 : x4_1 < (x3_1.length : Int)
      rotate_left
      ·
       rw [if_neg c9] at H
       exact absurd H (by simp)
      rw [if_pos c9] at H
      have c9b0 := decide_eq_true c9
      clear c9
      obtain ⟨y160, hy160⟩ : ∃ y_ : List (S39), y_ = (x3_1.set (x4_1 : Int).toNat (⟨t157, t158, t159⟩ : S39)) := ⟨_, rfl⟩
      replace H : (laws_toEventS.l0 k1 l0 y160 (wrap64 (x4_1 + 1))) = some r := by first | (rw [hy160]; with_reducible exact H) | (have H2_ := (Option.bind_some _ _).symm.trans H; rw [hy160]; with_reducible exact H2_) | (have H2_ := (Option.bind_some _ _).symm.trans H; with_reducible exact H2_) | with_reducible exact H | (rw [hy160]; exact H) | exact H
      have Ny160 := Ad_.mk hy160
      clear hy160
      have H' := Ad_.mk H
      clear H
      have p156 : 0 ≤ (x4_1 : Int) := od_
      have q156 : x4_1 < (l0.length : Int) := od_
      obtain ⟨ad156, e156, hx156_0, hx156_1, hx156_2⟩ := at_T49 HR0.out x4_1 p156 q156
      cases e156
      replace hx156_0 := pB_ HB.out hx156_0
      replace hx156_1 := pB_ HB.out hx156_1
      replace hx156_2 := pB_ HB.out hx156_2
      replace p156 := eq_true p156
      replace q156 := eq_true q156
      go_wp2_with (first | ((with_reducible refine gC_ (f := 20) rfl ?_); refine gM_ (some 20) rfl rfl Try.func20 (by kernel_rfl) rfl #[.agg #[.int .i64 ((rd_T49 l0 x4_1).f0), .int .i64 ((rd_T49 l0 x4_1).f1), .int .i64 ((rd_T49 l0 x4_1).f2)]] rfl ?_; (with_reducible refine (laws_toEvent.calls ((rd_T49 l0 x4_1).f0) ((rd_T49 l0 x4_1).f1) ((rd_T49 l0 x4_1).f2) t157 t158 t159 _ A8.out).mono ?_); rintro e w11 ⟨rfl, hb⟩; refine ⟨_, rfl, ?_⟩; have n0_ := Ad_.mk (Kd.R_below (by (with_reducible repeat (first | apply Kd.R_alloc | apply Kd.R_drewN | apply Kd.R_drew)); exact HO_3.out) hb); have n1_ := Ad_.mk (bP_ (by repeat (with_reducible first | exact HB.out | apply bA_ | apply bN_ | apply b1_)) hb); clear HO_3; clear HB; have HO_3 := n0_; have HB := n1_; clear n0_ n1_; (try clear hb); (try clear hb2); (try clear hk); (try clear hi); have p10 : 0 ≤ (x4_1 : Int) := od_; have q10 : (x4_1 : Int) < ((x3_1.length : Int) : Int) := od_; obtain ⟨go10, co10, eo10, gb10, gl10, cl10, HG10⟩ := Kd.R_form HO_3.out (by omega); (first | cases eo10 | (injection eo10 with ea_ en_ ec_; (first | subst ea_ | (injection ea_ with ea_; subst ea_)); subst ec_; clear en_)); have GB10 := Ad_.mk gb10; have GG10 := Ad_.mk HG10; clear gb10 gl10 HG10; obtain ⟨ce10, hcl10, hM10, hcc10, hfr10⟩ := Kd.R_elem HO_3.out z39 (x4_1 : Int) p10 q10; obtain rfl := k39_openM hM10; have hx10_0 : w11.cell? ⟨go10, (x4_1 : Int).toNat * 3, none⟩ = some (.int .i64 ((rd_T39 x3_1 x4_1).f0)) := hcc10 0 _ rfl; have hx10_1 : w11.cell? ⟨go10, (x4_1 : Int).toNat * 3 + 1, none⟩ = some (.int .i64 ((rd_T39 x3_1 x4_1).f1)) := hcc10 1 _ rfl; have hx10_2 : w11.cell? ⟨go10, (x4_1 : Int).toNat * 3 + 2, none⟩ = some (.int .i64 ((rd_T39 x3_1 x4_1).f2)) := hcc10 2 _ rfl; have hf10_0 : w11.frozen? ⟨go10, (x4_1 : Int).toNat * 3, none⟩ = false := hfr10 0; have hf10_1 : w11.frozen? ⟨go10, (x4_1 : Int).toNat * 3 + 1, none⟩ = false := hfr10 1; have hf10_2 : w11.frozen? ⟨go10, (x4_1 : Int).toNat * 3 + 2, none⟩ = false := hfr10 2; clear hcl10 hcc10 hfr10 hM10; replace p10 := eq_true p10; replace q10 := eq_true q10; have HX12 := Ad_.mk (show Kd.R k39 39 w11 w.heap.size (fun _ => True) (.slice (some ⟨go10, 0, none⟩) x3_1.length co10) x3_1 from (by (with_reducible repeat (first | apply Kd.R_alloc | apply Kd.R_drewN | apply Kd.R_drew)); exact HO_3.out)); obtain ⟨ce12, hcl12, hM12, hcc12, hfr12⟩ := Kd.R_elem HX12.out z39 (x4_1 : Int) (od_) (by have h_ : (x4_1 : Int) < ((x3_1.length : Int) : Int) := od_; first | exact h_ | (have e_ := (Kd.R_reads' HO_3.out).1; omega) | simpa using h_); obtain rfl := k39_openM hM12; have HP12 := Kd.R_seg HX12.out (x4_1 : Int) (od_) (by have h_ : (x4_1 : Int) < ((x3_1.length : Int) : Int) := od_; first | exact h_ | (have e_ := (Kd.R_reads' HO_3.out).1; omega) | simpa using h_) (seg := [.int .i64 t157, .int .i64 t158, .int .i64 t159]) (j := 0) hcl12 hcc12 (show 3 ≤ 3 from by decide) (x' := (⟨t157, t158, t159⟩ : S39)) (k39_mkM _ _ _ (⟨t157, t158, t159⟩ : S39) ) (fun _ hk => hk); have hx12_0 := hcc12 0 _ rfl; (try simp only [show (k39).sz = 3 from rfl, Nat.mul_one, Nat.add_zero] at hx12_0); have hf12_0 := hfr12 0; (try simp only [show (k39).sz = 3 from rfl, Nat.mul_one, Nat.add_zero] at hf12_0); have hx12_1 := hcc12 1 _ rfl; (try simp only [show (k39).sz = 3 from rfl, Nat.mul_one, Nat.add_zero] at hx12_1); have hf12_1 := hfr12 1; (try simp only [show (k39).sz = 3 from rfl, Nat.mul_one, Nat.add_zero] at hf12_1); have hx12_2 := hcc12 2 _ rfl; (try simp only [show (k39).sz = 3 from rfl, Nat.mul_one, Nat.add_zero] at hx12_2); have hf12_2 := hfr12 2; (try simp only [show (k39).sz = 3 from rfl, Nat.mul_one, Nat.add_zero] at hf12_2); clear hcl12 hcc12 hfr12 hM12) | ((with_reducible refine gate_store (t := 39) (p := 21) rfl ?_); refine store_event (t := 39) (p := 21) (v := ?vo_w13) (w1 := (((w11.setCell ⟨go10, (x4_1 : Int).toNat * 3, none⟩ (.int .i64 t157)).setCell ⟨go10, (x4_1 : Int).toNat * 3 + 1, none⟩ (.int .i64 t158)).setCell ⟨go10, (x4_1 : Int).toNat * 3 + 2, none⟩ (.int .i64 t159))) ?hg ?ho ?hn ?hr ?_; (case ho => rfl); (case hg => rfl); (case hn => rfl); (case hr => first | (go_simp; done) | (go_simp; rfl)); intro w13 hw; have hg : w11.grownBy w13 (some go10) := (by rw [hw]; exact HP12.2); have hp_ : Kd.R k39 39 w13 w.heap.size (fun _ => True) (.slice (some ⟨go10, 0, none⟩) x3_1.length co10) y160 := (by rw [hw, Ny160.out]; exact HP12.1); clear HP12; have n0_ := Ad_.mk (hp_); have n1_ := Ad_.mk ((by rw [hw]; exact bS_ (bS_ (bS_ (HB.out) GB10.out) GB10.out) GB10.out : Below w.heap.size w w13)); clear HO_3; clear HB; have HO_3 := n0_; have HB := n1_; clear n0_ n1_; clear hg hw hp_))
      go_roundg k1
      case measure => have := HK1.out; omega
      case rel => exact ⟨(y160), (wrap64 (x4_1 + 1)), fs_, H', ⟨by have := HK1.out; omega⟩, ⟨by (with_reducible repeat (first | apply Kd.R_alloc | apply Kd.R_drewN | apply Kd.R_drew)); exact HO_3.out⟩, ⟨by repeat (with_reducible first | exact HB.out | apply bA_ | apply bN_ | apply b1_)⟩⟩
def laws_toResult.f (k : Nat) (a0_0 : Int) (a0_1 : ByteArray) (a0_2 : Int) (a0_3 : Int) (l0_4 : List (S49)) : Option (Int × ByteArray × Int × Int × (List (S39))) := (laws_toEventS.f k l0_4).bind fun t164 => (some (a0_0, a0_1, a0_2, a0_3, t164))
set_option maxHeartbeats 8000000 in
set_option maxRecDepth 100000 in
theorem laws_toResult.calls (k : Nat) (a0_0 : Int) (a0_1 : ByteArray) (a0_2 : Int) (a0_3 : Int) (A0_4 : Option Addr) (c0_4 : Nat) (l0_4 : List (S49)) (r1 : Int) (r2 : ByteArray) (r3 : Int) (r4 : Int) (r5 : List (S39)) (w : World) (hr0_4 : Kd.C k49 w A0_4 l0_4.length l0_4) (hc0_4 : l0_4.length ≤ c0_4) (h : laws_toResult.f k a0_0 a0_1 a0_2 a0_3 l0_4 = some (r1, r2, r3, r4, r5)) :
    Calls Try.prog 6 #[.agg #[.int .i64 a0_0, .string a0_1, .int .i64 a0_2, .int .i64 a0_3, .slice A0_4 l0_4.length c0_4]] w fun e w' => ∃ v4_ : Value, e = .returned (.agg #[.int .i64 r1, .string r2, .int .i64 r3, .int .i64 r4, v4_]) ∧ Kd.R k39 39 w' w.heap.size (fun _ => True) v4_ r5 ∧ Below w.heap.size w w' := by
  have hu24 := Try.underlying24
  have hu30 := Try.underlying30
  have HR0_4 := Ad_.mk hr0_4
  have HC0_4 := Ad_.mk hc0_4
  clear hr0_4 hc0_4
  have HB := Ad_.mk (Below.refl w.heap.size w)
  have H := h
  unfold laws_toResult.f at H
  clear h
  replace H := Option.bind_eq_some_iff.mp H
  obtain ⟨t164, A20, H⟩ := H
  try dsimp only at H
  have A2 := Ad_.mk A20
  clear A20
  simp only [Option.some.injEq, Prod.mk.injEq] at H
  obtain ⟨rfl, rfl, rfl, rfl, rfl⟩ := H
  go_enter Try.func6, Try.ntmps6
  go_wp2_with (first | ((with_reducible refine gD_ (N := 1) rfl ?_); refine bE_ ?hg (N := 1) ?hd (cs := #[.int .i64 a0_0, .string a0_1, .int .i64 a0_2, .int .i64 a0_3, .slice A0_4 l0_4.length c0_4]) (t := 24) ?hr ?_; (case hd => rfl); (case hg => rfl); (case hr => first | (go_simp; done) | (go_simp; rfl)); intro gb161 hg w3 hbox hb; have n0_ := Ad_.mk (bP_ (by repeat (with_reducible first | exact HB.out | apply bA_ | apply bN_ | apply b1_)) hb); have n1_ := Ad_.mk (hbox); have n2_ := Ad_.mk ((by rw [hg]; exact (bZ_ (by repeat (with_reducible first | exact HB.out | apply bA_ | apply bN_ | apply b1_))) : w.heap.size ≤ gb161)); have n3_ := Ad_.mk ((by rw [hg]; exact (bZ_ (by repeat (with_reducible first | exact HB.out | apply bA_ | apply bN_ | apply b1_))) : w.heap.size ≤ gb161)); clear HB; have HB := n0_; have BK161 := n1_; have GW161 := n2_; have GE161 := n3_; clear n0_ n1_ n2_ n3_; clear hb hbox hg) | ((with_reducible refine gD_ (N := 2) rfl ?_); refine bE_ ?hg (N := 2) ?hd (cs := #[.int .i64 0, .string (⟨#[]⟩ : ByteArray), .int .i64 0, .int .i64 0, .slice none 0 0]) (t := 30) ?hr ?_; (case hd => rfl); (case hg => rfl); (case hr => first | (go_simp; done) | (go_simp; rfl)); intro gb162 hg w4 hbox hb; have n0_ := Ad_.mk (blk_below (g := gb161) (o := .cells #[.int .i64 a0_0, .string a0_1, .int .i64 a0_2, .int .i64 a0_3, .slice A0_4 l0_4.length c0_4] 24 (0, 0)) (by (with_reducible repeat (first | refine kN_ ?_ _ | refine k1_ ?_ | refine kA_ ?_ _)); exact BK161.out) hb); have n1_ := Ad_.mk (bP_ (by repeat (with_reducible first | exact HB.out | apply bA_ | apply bN_ | apply b1_ | refine bS_ ?_ GE161.out)) hb); have n2_ := Ad_.mk (hbox); have n3_ := Ad_.mk ((by rw [hg]; exact (bZ_ (by repeat (with_reducible first | exact HB.out | apply bA_ | apply bN_ | apply b1_ | refine bS_ ?_ GE161.out))) : w.heap.size ≤ gb162)); have n4_ := Ad_.mk ((by rw [hg]; exact (bZ_ (by repeat (with_reducible first | exact HB.out | apply bA_ | apply bN_ | apply b1_ | refine bS_ ?_ GE161.out))) : w.heap.size ≤ gb162)); have n5_ := Ad_.mk ((by rw [hg]; exact Nat.ne_of_lt (blk_lt (g := gb161) (o := .cells #[.int .i64 a0_0, .string a0_1, .int .i64 a0_2, .int .i64 a0_3, .slice A0_4 l0_4.length c0_4] 24 (0, 0)) (by (with_reducible repeat (first | refine kN_ ?_ _ | refine k1_ ?_ | refine kA_ ?_ _)); exact BK161.out)) : gb161 ≠ gb162)); have n6_ := Ad_.mk ((by rw [hg]; exact Nat.ne_of_gt (blk_lt (g := gb161) (o := .cells #[.int .i64 a0_0, .string a0_1, .int .i64 a0_2, .int .i64 a0_3, .slice A0_4 l0_4.length c0_4] 24 (0, 0)) (by (with_reducible repeat (first | refine kN_ ?_ _ | refine k1_ ?_ | refine kA_ ?_ _)); exact BK161.out)) : gb162 ≠ gb161)); clear BK161; clear HB; have BK161 := n0_; have HB := n1_; have BK162 := n2_; have GW162 := n3_; have GE162 := n4_; have NB161_162 := n5_; have NB162_161 := n6_; clear n0_ n1_ n2_ n3_ n4_ n5_ n6_; clear hb hbox hg) | ((with_reducible refine gD_ (N := 3) rfl ?_); refine bE_ ?hg (N := 3) ?hd (cs := #[.int .i64 0, .string (⟨#[]⟩ : ByteArray), .int .i64 0, .int .i64 0, .slice none 0 0]) (t := 30) ?hr ?_; (case hd => rfl); (case hg => rfl); (case hr => first | (go_simp; done) | (go_simp; rfl)); intro gb163 hg w5 hbox hb; have n0_ := Ad_.mk (blk_below (g := gb161) (o := .cells #[.int .i64 a0_0, .string a0_1, .int .i64 a0_2, .int .i64 a0_3, .slice A0_4 l0_4.length c0_4] 24 (0, 0)) (by (with_reducible repeat (first | refine kN_ ?_ _ | refine k1_ ?_ | refine kA_ ?_ _)); exact BK161.out) hb); have n1_ := Ad_.mk (blk_below (g := gb162) (o := .cells #[.int .i64 0, .string (⟨#[]⟩ : ByteArray), .int .i64 0, .int .i64 0, .slice none 0 0] 30 (0, 0)) (by (with_reducible repeat (first | refine kN_ ?_ _ | refine k1_ ?_ | refine kA_ ?_ _)); exact BK162.out) hb); have n2_ := Ad_.mk (bP_ (by repeat (with_reducible first | exact HB.out | apply bA_ | apply bN_ | apply b1_ | refine bS_ ?_ GE161.out | refine bS_ ?_ GE162.out)) hb); have n3_ := Ad_.mk (hbox); have n4_ := Ad_.mk ((by rw [hg]; exact (bZ_ (by repeat (with_reducible first | exact HB.out | apply bA_ | apply bN_ | apply b1_ | refine bS_ ?_ GE161.out | refine bS_ ?_ GE162.out))) : w.heap.size ≤ gb163)); have n5_ := Ad_.mk ((by rw [hg]; exact (bZ_ (by repeat (with_reducible first | exact HB.out | apply bA_ | apply bN_ | apply b1_ | refine bS_ ?_ GE161.out | refine bS_ ?_ GE162.out))) : w.heap.size ≤ gb163)); have n6_ := Ad_.mk ((by rw [hg]; exact Nat.ne_of_lt (blk_lt (g := gb161) (o := .cells #[.int .i64 a0_0, .string a0_1, .int .i64 a0_2, .int .i64 a0_3, .slice A0_4 l0_4.length c0_4] 24 (0, 0)) (by (with_reducible repeat (first | refine kN_ ?_ _ | refine k1_ ?_ | refine kA_ ?_ _)); exact BK161.out)) : gb161 ≠ gb163)); have n7_ := Ad_.mk ((by rw [hg]; exact Nat.ne_of_gt (blk_lt (g := gb161) (o := .cells #[.int .i64 a0_0, .string a0_1, .int .i64 a0_2, .int .i64 a0_3, .slice A0_4 l0_4.length c0_4] 24 (0, 0)) (by (with_reducible repeat (first | refine kN_ ?_ _ | refine k1_ ?_ | refine kA_ ?_ _)); exact BK161.out)) : gb163 ≠ gb161)); have n8_ := Ad_.mk ((by rw [hg]; exact Nat.ne_of_lt (blk_lt (g := gb162) (o := .cells #[.int .i64 0, .string (⟨#[]⟩ : ByteArray), .int .i64 0, .int .i64 0, .slice none 0 0] 30 (0, 0)) (by (with_reducible repeat (first | refine kN_ ?_ _ | refine k1_ ?_ | refine kA_ ?_ _)); exact BK162.out)) : gb162 ≠ gb163)); have n9_ := Ad_.mk ((by rw [hg]; exact Nat.ne_of_gt (blk_lt (g := gb162) (o := .cells #[.int .i64 0, .string (⟨#[]⟩ : ByteArray), .int .i64 0, .int .i64 0, .slice none 0 0] 30 (0, 0)) (by (with_reducible repeat (first | refine kN_ ?_ _ | refine k1_ ?_ | refine kA_ ?_ _)); exact BK162.out)) : gb163 ≠ gb162)); clear BK161; clear BK162; clear HB; have BK161 := n0_; have BK162 := n1_; have HB := n2_; have BK163 := n3_; have GW163 := n4_; have GE163 := n5_; have NB161_163 := n6_; have NB163_161 := n7_; have NB162_163 := n8_; have NB163_162 := n9_; clear n0_ n1_ n2_ n3_ n4_ n5_ n6_ n7_ n8_ n9_; clear hb hbox hg; have hnb6 := NB161_162.out; have hnc6 := NB162_161.out; have hnb7 := NB161_163.out; have hnc7 := NB163_161.out; obtain ⟨hcz8_0, hcz8_1, hcz8_2, hcz8_3, hcz8_4⟩ := cells5_ BK161.out; obtain ⟨hfz8_0, hfz8_1, hfz8_2, hfz8_3, hfz8_4⟩ := froz5_ BK161.out; have hnb9 := NB163_162.out; have hnc9 := NB162_163.out; obtain ⟨hcz10_0, hcz10_1, hcz10_2, hcz10_3, hcz10_4⟩ := cells5_ BK163.out; obtain ⟨hfz10_0, hfz10_1, hfz10_2, hfz10_3, hfz10_4⟩ := froz5_ BK163.out) | ((with_reducible refine gC_ (f := 15) rfl ?_); refine gM_ (some 18) rfl rfl Try.func15 (by kernel_rfl) rfl #[.slice A0_4 l0_4.length c0_4] rfl ?_; (with_reducible refine (laws_toEventS.calls k _ _ l0_4 t164 _ ?side1 ?side2 A2.out).mono ?_); (case side1 => exact Kd.C_below HR0_4.out (by repeat (with_reducible first | exact HB.out | apply bA_ | apply bN_ | apply b1_ | refine bS_ ?_ GE161.out | refine bS_ ?_ GE162.out | refine bS_ ?_ GE163.out))); (case side2 => exact HC0_4.out); rintro e w11 ⟨v165, rfl, ho0, hb⟩; refine ⟨_, rfl, ?_⟩; have n0_ := Ad_.mk (Kd.R_lower ho0 (bZ_ (by repeat (with_reducible first | exact HB.out | apply bA_ | apply bN_ | apply b1_ | refine bS_ ?_ GE161.out | refine bS_ ?_ GE162.out | refine bS_ ?_ GE163.out)))); have n1_ := Ad_.mk (blk_below (g := gb161) (o := .cells #[.int .i64 a0_0, .string a0_1, .int .i64 a0_2, .int .i64 a0_3, .slice A0_4 l0_4.length c0_4] 24 (0, 0)) (by (with_reducible repeat (first | refine kN_ ?_ _ | refine k1_ ?_ | refine kA_ ?_ _)); refine blk_far ?_ NB161_163.out _; (with_reducible repeat (first | refine kN_ ?_ _ | refine k1_ ?_ | refine kA_ ?_ _)); refine blk_far ?_ NB161_163.out _; (with_reducible repeat (first | refine kN_ ?_ _ | refine k1_ ?_ | refine kA_ ?_ _)); refine blk_far ?_ NB161_163.out _; (with_reducible repeat (first | refine kN_ ?_ _ | refine k1_ ?_ | refine kA_ ?_ _)); refine blk_far ?_ NB161_163.out _; (with_reducible repeat (first | refine kN_ ?_ _ | refine k1_ ?_ | refine kA_ ?_ _)); exact BK161.out) hb); have n2_ := Ad_.mk (blk_below (g := gb162) (o := .cells #[.int .i64 0, .string (⟨#[]⟩ : ByteArray), .int .i64 0, .int .i64 0, .slice none 0 0] 30 (0, 0)) (by (with_reducible repeat (first | refine kN_ ?_ _ | refine k1_ ?_ | refine kA_ ?_ _)); refine blk_far ?_ NB162_163.out _; (with_reducible repeat (first | refine kN_ ?_ _ | refine k1_ ?_ | refine kA_ ?_ _)); refine blk_far ?_ NB162_163.out _; (with_reducible repeat (first | refine kN_ ?_ _ | refine k1_ ?_ | refine kA_ ?_ _)); refine blk_far ?_ NB162_163.out _; (with_reducible repeat (first | refine kN_ ?_ _ | refine k1_ ?_ | refine kA_ ?_ _)); refine blk_far ?_ NB162_163.out _; (with_reducible repeat (first | refine kN_ ?_ _ | refine k1_ ?_ | refine kA_ ?_ _)); exact BK162.out) hb); have n3_ := Ad_.mk (blk_below (g := gb163) (o := .cells #[.int .i64 a0_0, .string a0_1, .int .i64 a0_2, .int .i64 a0_3, .slice none 0 0] 30 (0, 0)) (by (with_reducible repeat (first | refine kN_ ?_ _ | refine k1_ ?_ | refine kA_ ?_ _)); refine blk_put (cs := #[.int .i64 a0_0, .string a0_1, .int .i64 a0_2, .int .i64 0, .slice none 0 0]) ?_ 3 _ rfl; (with_reducible repeat (first | refine kN_ ?_ _ | refine k1_ ?_ | refine kA_ ?_ _)); refine blk_put (cs := #[.int .i64 a0_0, .string a0_1, .int .i64 0, .int .i64 0, .slice none 0 0]) ?_ 2 _ rfl; (with_reducible repeat (first | refine kN_ ?_ _ | refine k1_ ?_ | refine kA_ ?_ _)); refine blk_put (cs := #[.int .i64 a0_0, .string (⟨#[]⟩ : ByteArray), .int .i64 0, .int .i64 0, .slice none 0 0]) ?_ 1 _ rfl; (with_reducible repeat (first | refine kN_ ?_ _ | refine k1_ ?_ | refine kA_ ?_ _)); refine blk_put (cs := #[.int .i64 0, .string (⟨#[]⟩ : ByteArray), .int .i64 0, .int .i64 0, .slice none 0 0]) ?_ 0 _ rfl; (with_reducible repeat (first | refine kN_ ?_ _ | refine k1_ ?_ | refine kA_ ?_ _)); exact BK163.out) hb); have n4_ := Ad_.mk (bP_ (by repeat (with_reducible first | exact HB.out | apply bA_ | apply bN_ | apply b1_ | refine bS_ ?_ GE161.out | refine bS_ ?_ GE162.out | refine bS_ ?_ GE163.out)) hb); clear BK161; clear BK162; clear BK163; clear HB; have HO166 := n0_; have BK161 := n1_; have BK162 := n2_; have BK163 := n3_; have HB := n4_; clear n0_ n1_ n2_ n3_ n4_; (try clear hb); (try clear hb2); (try clear hk); (try clear hi); (try clear ho0); obtain ⟨Ao12, co12, eo12⟩ := Kd.R_slice HO166.out; subst eo12; obtain ⟨hcz13_0, hcz13_1, hcz13_2, hcz13_3, hcz13_4⟩ := cells5_ BK163.out; obtain ⟨hfz13_0, hfz13_1, hfz13_2, hfz13_3, hfz13_4⟩ := froz5_ BK163.out; obtain ⟨hcz14_0, hcz14_1, hcz14_2, hcz14_3, hcz14_4⟩ := cells5_ BK162.out; obtain ⟨hfz14_0, hfz14_1, hfz14_2, hfz14_3, hfz14_4⟩ := froz5_ BK162.out))
  refine bodyPost_ret (results_cell_row rfl _ _ gb162 30 #[.int .i64 a0_0, .string a0_1, .int .i64 a0_2, .int .i64 a0_3, .slice Ao12 t164.length co12] (0, 0) _ rfl (by (with_reducible repeat (first | refine kN_ ?_ _ | refine k1_ ?_ | refine kA_ ?_ _)); refine blk_put (cs := #[.int .i64 a0_0, .string a0_1, .int .i64 a0_2, .int .i64 a0_3, .slice none 0 0]) ?_ 4 _ rfl; (with_reducible repeat (first | refine kN_ ?_ _ | refine k1_ ?_ | refine kA_ ?_ _)); refine blk_put (cs := #[.int .i64 a0_0, .string a0_1, .int .i64 a0_2, .int .i64 0, .slice none 0 0]) ?_ 3 _ rfl; (with_reducible repeat (first | refine kN_ ?_ _ | refine k1_ ?_ | refine kA_ ?_ _)); refine blk_put (cs := #[.int .i64 a0_0, .string a0_1, .int .i64 0, .int .i64 0, .slice none 0 0]) ?_ 2 _ rfl; (with_reducible repeat (first | refine kN_ ?_ _ | refine k1_ ?_ | refine kA_ ?_ _)); refine blk_put (cs := #[.int .i64 a0_0, .string (⟨#[]⟩ : ByteArray), .int .i64 0, .int .i64 0, .slice none 0 0]) ?_ 1 _ rfl; (with_reducible repeat (first | refine kN_ ?_ _ | refine k1_ ?_ | refine kA_ ?_ _)); refine blk_put (cs := #[.int .i64 0, .string (⟨#[]⟩ : ByteArray), .int .i64 0, .int .i64 0, .slice none 0 0]) ?_ 0 _ rfl; (with_reducible repeat (first | refine kN_ ?_ _ | refine k1_ ?_ | refine kA_ ?_ _)); refine blk_far ?_ NB162_163.out _; (with_reducible repeat (first | refine kN_ ?_ _ | refine k1_ ?_ | refine kA_ ?_ _)); exact BK162.out) Try.underlying30 rfl (by kernel_rfl)) rfl ?_
  exact ⟨_, by first | rfl | (simp [errW_none, errW_some] <;> rfl) | (simp [*, errW_none, errW_some] <;> rfl), by (with_reducible repeat (first | apply Kd.R_alloc | apply Kd.R_drewN | apply Kd.R_drew)); exact Kd.R_mono (Kd.R_far (p := ⟨gb162, 4, none⟩) (Kd.R_far (p := ⟨gb162, 3, none⟩) (Kd.R_far (p := ⟨gb162, 2, none⟩) (Kd.R_far (p := ⟨gb162, 1, none⟩) (Kd.R_far (p := ⟨gb162, 0, none⟩) (Kd.R_far (p := ⟨gb163, 4, none⟩) (Kd.R_types (Kd.R_types HO166.out BK163.out (by decide)) BK162.out (by decide)) (fun _ hk => hk.1.2) (.slice Ao12 t164.length co12)) (fun _ hk => hk.2) (.int .i64 a0_0)) (fun _ hk => hk.2) (.string a0_1)) (fun _ hk => hk.2) (.int .i64 a0_2)) (fun _ hk => hk.2) (.int .i64 a0_3)) (fun _ hk => hk.2) (.slice Ao12 t164.length co12)) (fun _ hk => trivial), by repeat (with_reducible first | exact HB.out | apply bA_ | apply bN_ | apply b1_ | refine bS_ ?_ GE161.out | refine bS_ ?_ GE162.out | refine bS_ ?_ GE163.out)⟩
end Go.Proofs.Ytfmlamheflbgdaa.PAll
end
section
namespace Go.Proofs
open Go.Shelf
def Try.sv6_ren : Go.Shelf.Ren := ⟨fun | 6 => 21 | 10 => 24 | 11 => 25 | 12 => 26 | 13 => 27 | 14 => 28 | 24 => 38 | 25 => 39 | 26 => 40 | 27 => 41 | 28 => 42 | 29 => 43 | 30 => 44 | 31 => 45 | 32 => 46 | 33 => 47 | 34 => 48 | 35 => 49 | 36 => 50 | 37 => 51 | 38 => 52 | 39 => 53 | n => n, fun | 20 => 20 | 26 => 51 | 35 => 56 | 0 => 0 | 37 => 58 | 3 => 3 | 41 => 62 | 44 => 65 | 49 => 70 | 51 => 72 | 4 => 4 | 54 => 75 | 53 => 74 | 58 => 79 | 5 => 5 | 9 => 9 | 60 => 81 | 64 => 85 | 66 => 87 | 67 => 88 | 17 => 17 | 32 => 53 | 33 => 54 | 82 => 103 | 12 => 12 | 75 => 96 | 76 => 97 | 77 => 98 | 78 => 99 | 79 => 100 | 80 => 101 | n => n, fun | n => n⟩
theorem Try.sv6 : Go.Proofs.LaysGg.n6 Try.prog Try.sv6_ren := {
  mixed := by kernel_rfl
  f6 := Try.func21.trans (congrArg some (by kernel_rfl))
  f10 := Try.func24.trans (congrArg some (by kernel_rfl))
  f11 := Try.func25.trans (congrArg some (by kernel_rfl))
  f12 := Try.func26.trans (congrArg some (by kernel_rfl))
  f13 := Try.func27.trans (congrArg some (by kernel_rfl))
  f14 := Try.func28.trans (congrArg some (by kernel_rfl))
  f24 := Try.func38.trans (congrArg some (by kernel_rfl))
  f25 := Try.func39.trans (congrArg some (by kernel_rfl))
  f26 := Try.func40.trans (congrArg some (by kernel_rfl))
  f27 := Try.func41.trans (congrArg some (by kernel_rfl))
  f28 := Try.func42.trans (congrArg some (by kernel_rfl))
  f29 := Try.func43.trans (congrArg some (by kernel_rfl))
  f30 := Try.func44.trans (congrArg some (by kernel_rfl))
  f31 := Try.func45.trans (congrArg some (by kernel_rfl))
  f32 := Try.func46.trans (congrArg some (by kernel_rfl))
  f33 := Try.func47.trans (congrArg some (by kernel_rfl))
  f34 := Try.func48.trans (congrArg some (by kernel_rfl))
  f35 := Try.func49.trans (congrArg some (by kernel_rfl))
  f36 := Try.func50.trans (congrArg some (by kernel_rfl))
  f37 := Try.func51.trans (congrArg some (by kernel_rfl))
  f38 := Try.func52.trans (congrArg some (by kernel_rfl))
  f39 := Try.func53.trans (congrArg some (by kernel_rfl))
  t0 := Try.underlying0
  a0 := Try.isAgg0
  z0 := Try.sizeOf0
  v0 := Try.zeroValue0
  i0 := by kernel_rfl
  t3 := Try.underlying3
  a3 := Try.isAgg3
  z3 := Try.sizeOf3
  v3 := Try.zeroValue3
  i3 := by kernel_rfl
  t4 := Try.underlying4
  a4 := Try.isAgg4
  z4 := Try.sizeOf4
  v4 := Try.zeroValue4
  i4 := by kernel_rfl
  t5 := Try.underlying5
  a5 := Try.isAgg5
  z5 := Try.sizeOf5
  v5 := Try.zeroValue5
  i5 := by kernel_rfl
  t9 := Try.underlying9
  a9 := Try.isAgg9
  z9 := Try.sizeOf9
  v9 := Try.zeroValue9
  i9 := by kernel_rfl
  t12 := Try.underlying12
  a12 := Try.isAgg12
  z12 := Try.sizeOf12
  v12 := Try.zeroValue12
  i12 := by kernel_rfl
  t17 := Try.underlying17
  a17 := Try.isAgg17
  z17 := Try.sizeOf17
  v17 := Try.zeroValue17
  i17 := by kernel_rfl
  t20 := Try.underlying20
  a20 := Try.isAgg20
  z20 := Try.sizeOf20
  v20 := Try.zeroValue20
  i20 := by kernel_rfl
  t26 := Try.underlying51
  a26 := Try.isAgg51
  z26 := Try.sizeOf51
  v26 := Try.zeroValue51
  i26 := by kernel_rfl
  t32 := Try.underlying53
  a32 := Try.isAgg53
  z32 := Try.sizeOf53
  v32 := Try.zeroValue53
  i32 := by kernel_rfl
  t33 := Try.underlying54
  a33 := Try.isAgg54
  z33 := Try.sizeOf54
  v33 := Try.zeroValue54
  i33 := by kernel_rfl
  t35 := Try.underlying56
  a35 := Try.isAgg56
  z35 := Try.sizeOf56
  v35 := Try.zeroValue56
  i35 := by kernel_rfl
  t37 := Try.underlying58
  a37 := Try.isAgg58
  z37 := Try.sizeOf58
  v37 := Try.zeroValue58
  i37 := by kernel_rfl
  t41 := Try.underlying62
  a41 := Try.isAgg62
  z41 := Try.sizeOf62
  v41 := Try.zeroValue62
  i41 := by kernel_rfl
  t44 := Try.underlying65
  a44 := Try.isAgg65
  z44 := Try.sizeOf65
  v44 := Try.zeroValue65
  i44 := by kernel_rfl
  t49 := Try.underlying70
  a49 := Try.isAgg70
  z49 := Try.sizeOf70
  v49 := Try.zeroValue70
  i49 := by kernel_rfl
  t51 := Try.underlying72
  a51 := Try.isAgg72
  z51 := Try.sizeOf72
  v51 := Try.zeroValue72
  i51 := by kernel_rfl
  t53 := Try.underlying74
  a53 := Try.isAgg74
  z53 := Try.sizeOf74
  v53 := Try.zeroValue74
  i53 := by kernel_rfl
  t54 := Try.underlying75
  a54 := Try.isAgg75
  z54 := Try.sizeOf75
  v54 := Try.zeroValue75
  i54 := by kernel_rfl
  t58 := Try.underlying79
  a58 := Try.isAgg79
  z58 := Try.sizeOf79
  v58 := Try.zeroValue79
  i58 := by kernel_rfl
  t60 := Try.underlying81
  a60 := Try.isAgg81
  z60 := Try.sizeOf81
  v60 := Try.zeroValue81
  i60 := by kernel_rfl
  t64 := Try.underlying85
  a64 := Try.isAgg85
  z64 := Try.sizeOf85
  v64 := Try.zeroValue85
  i64 := by kernel_rfl
  t66 := Try.underlying87
  a66 := Try.isAgg87
  z66 := Try.sizeOf87
  v66 := Try.zeroValue87
  i66 := by kernel_rfl
  t67 := Try.underlying88
  a67 := Try.isAgg88
  z67 := Try.sizeOf88
  v67 := Try.zeroValue88
  i67 := by kernel_rfl
  t75 := Try.underlying96
  a75 := Try.isAgg96
  z75 := Try.sizeOf96
  v75 := Try.zeroValue96
  i75 := by kernel_rfl
  t76 := Try.underlying97
  a76 := Try.isAgg97
  z76 := Try.sizeOf97
  v76 := Try.zeroValue97
  i76 := by kernel_rfl
  t77 := Try.underlying98
  a77 := Try.isAgg98
  z77 := Try.sizeOf98
  v77 := Try.zeroValue98
  i77 := by kernel_rfl
  t78 := Try.underlying99
  a78 := Try.isAgg99
  z78 := Try.sizeOf99
  v78 := Try.zeroValue99
  i78 := by kernel_rfl
  t79 := Try.underlying100
  a79 := Try.isAgg100
  z79 := Try.sizeOf100
  v79 := Try.zeroValue100
  i79 := by kernel_rfl
  t80 := Try.underlying101
  a80 := Try.isAgg101
  z80 := Try.sizeOf101
  v80 := Try.zeroValue101
  i80 := by kernel_rfl
  t82 := Try.underlying103
  a82 := Try.isAgg103
  z82 := Try.sizeOf103
  v82 := Try.zeroValue103
  i82 := by kernel_rfl }
end Go.Proofs
end
section
namespace Go.Proofs.Ytfmlamheflbgdaa.PAll
open Go.RowKit Go.Proofs.YtfmlamheflbgdaaW.PrintWords Go.Proofs.YtfmlamheflbgdaaW.PrintLast Go.Sort
def ltE (a b : S42) : Bool := decide (a.f0 < b.f0) || (decide (a.f0 = b.f0) && decide (a.f1 < b.f1))
theorem ltE_iff (a b : S42) : ltE a b = true ↔ (a.f0 < b.f0 ∨ (a.f0 = b.f0 ∧ a.f1 < b.f1)) := by simp [ltE]
theorem ltE_no (a b : S42) : ltE a b = false ↔ ¬ (a.f0 < b.f0 ∨ (a.f0 = b.f0 ∧ a.f1 < b.f1)) := by rw [← ltE_iff]; simp
theorem ltE_eq {a b : S42} (h1 : ltE a b = false) (h2 : ltE b a = false) : a = b := by
  rw [ltE_no] at h1 h2
  obtain ⟨a0, a1⟩ := a
  obtain ⟨b0, b1⟩ := b
  simp only at h1 h2
  rw [S42.mk.injEq]
  omega
def eqE (a b : S42) : Bool := decide (a.f0 = b.f0) && decide (a.f1 = b.f1)
theorem eqE_iff (a b : S42) : eqE a b = true ↔ a = b := by
  obtain ⟨a0, a1⟩ := a
  obtain ⟨b0, b1⟩ := b
  simp [eqE]
theorem eqE_no (a b : S42) : eqE a b = false ↔ a ≠ b := by rw [Ne, ← eqE_iff]; simp
instance : Inhabited S42 := ⟨z42⟩
theorem swo_ltE : SWO ltE where
  irrefl := fun x => by rw [ltE_no]; omega
  trans := fun x y z h1 h2 => by rw [ltE_iff] at *; omega
  ntrans := fun x y z h1 h2 => by rw [ltE_no] at *; omega
def sortE (l : List S42) : List S42 := if 2 ≤ l.length then (pdq ltE l.toArray 0 l.toArray.size (Lib.bitLen l.toArray.size) true true).toList else l
theorem sortE_facts (l : List S42) : (sortE l).Perm l ∧ (sortE l).Pairwise (fun a b => ltE b a = false) := by
  unfold sortE
  split
  · obtain ⟨⟨hs, _, hp⟩, ho⟩ := pdq_sorts ltE swo_ltE l.toArray 0 l.toArray.size (Lib.bitLen l.toArray.size) true true (Nat.zero_le _) (Nat.le_refl _) (Or.inl rfl)
    refine ⟨?_, ?_⟩
    · generalize pdq ltE l.toArray 0 l.toArray.size (Lib.bitLen l.toArray.size) true true = q at hs hp
      have e1 : q.extract 0 l.toArray.size = q := by rw [← hs]; exact Array.extract_size
      rw [e1, Array.extract_size] at hp
      exact hp
    · rw [List.pairwise_iff_getElem]
      intro i j hi hj hij
      have hj' : j < (pdq ltE l.toArray 0 l.toArray.size (Lib.bitLen l.toArray.size) true true).size := by simpa using hj
      have := ho i j (Nat.zero_le _) hij (by rw [← hs]; exact hj')
      rw [getElem!_pos _ j hj', getElem!_pos _ i (by omega)] at this
      simpa using this
  · refine ⟨List.Perm.refl _, ?_⟩
    match l with
    | [] => exact List.Pairwise.nil
    | [a] => simp
    | a :: b :: r => rename_i h; simp at h
theorem sortE_len (l : List S42) : (sortE l).length = l.length := (sortE_facts l).1.length_eq
def onceE (l : List S42) : Nat → List S42
  | 0 => []
  | i + 1 => if i = 0 ∨ eqE (l.getD (i - 1) z42) (l.getD i z42) = false then onceE l i ++ [l.getD i z42] else onceE l i
theorem onceE_len (l : List S42) : ∀ i, (onceE l i).length ≤ i
  | 0 => Nat.le_refl _
  | i + 1 => by
    have := onceE_len l i
    unfold onceE
    split <;> simp <;> omega
theorem onceE_facts (l : List S42) (hl : l.Pairwise (fun a b => ltE b a = false)) : ∀ i, i ≤ l.length → (∀ x, x ∈ onceE l i ↔ x ∈ l.take i) ∧ (onceE l i).Pairwise (fun a b => ltE a b = true)
  | 0, _ => by simp [onceE]
  | i + 1, h => by
    obtain ⟨h1, h2⟩ := onceE_facts l hl i (by omega)
    have hi : i < l.length := h
    have hg : l.getD i z42 = l[i] := by simp [List.getD_eq_getElem?_getD, hi]
    have ht : l.take (i + 1) = l.take i ++ [l[i]] := (List.take_append_getElem hi).symm
    have hle : ∀ x ∈ l.take i, ltE l[i] x = false := fun x hx => by
      obtain ⟨j, hj, rfl⟩ := List.mem_iff_getElem.1 hx
      have hj' : j < i := by simp at hj; omega
      rw [List.getElem_take]
      exact (List.pairwise_iff_getElem.1 hl) j i (by omega) hi hj'
    unfold onceE
    rw [hg, ht]
    split
    · rename_i hc
      refine ⟨fun x => by rw [List.mem_append, List.mem_append, h1], ?_⟩
      rw [List.pairwise_append]
      refine ⟨h2, by simp, fun x hx y hy => ?_⟩
      obtain rfl := List.mem_singleton.1 hy
      rw [h1] at hx
      rcases hc with rfl | hc
      · simp at hx
      · rcases Nat.eq_zero_or_pos i with rfl | hp
        · simp at hx
        have hg' : l.getD (i - 1) z42 = l[i - 1] := by simp [List.getD_eq_getElem?_getD, show i - 1 < l.length by omega]
        rw [hg', eqE_no] at hc
        have hx1 : ltE l[i - 1] x = false := by
          obtain ⟨j, hj, rfl⟩ := List.mem_iff_getElem.1 hx
          have hj' : j < i := by simp at hj; omega
          rw [List.getElem_take]
          rcases Nat.lt_or_ge j (i - 1) with h3 | h3
          · exact (List.pairwise_iff_getElem.1 hl) j (i - 1) (by omega) (by omega) h3
          · have : j = i - 1 := by omega
            subst this
            exact swo_ltE.irrefl _
        have hx2 : ltE l[i] l[i - 1] = false := hle _ (List.mem_iff_getElem.2 ⟨i - 1, by simp; omega, by rw [List.getElem_take]⟩)
        rcases hb : ltE x l[i] with _ | _
        · exact absurd (ltE_eq (swo_ltE.ntrans _ _ _ hx1 hb) hx2) hc
        · rfl
    · rename_i hc
      refine ⟨fun x => ?_, h2⟩
      have hp : 0 < i := Nat.pos_of_ne_zero fun e => hc (.inl e)
      have hq : l.getD (i - 1) z42 = l[i] := Classical.byContradiction fun e => hc (.inr ((eqE_no _ _).2 e))
      have hg' : l.getD (i - 1) z42 = l[i - 1] := by simp [List.getD_eq_getElem?_getD, show i - 1 < l.length by omega]
      rw [hg'] at hq
      rw [h1, List.mem_append, List.mem_singleton]
      refine ⟨.inl, ?_⟩
      rintro (hx | rfl)
      · exact hx
      · exact List.mem_iff_getElem.2 ⟨i - 1, by simp; omega, by rw [List.getElem_take, hq]⟩
theorem riseE_one : ∀ (a b : List S42), a.Pairwise (fun x y => ltE x y = true) → b.Pairwise (fun x y => ltE x y = true) → (∀ x, x ∈ a ↔ x ∈ b) → a = b
  | [], [], _, _, _ => rfl
  | [], y :: s, _, _, h => by simpa using (h y).2 (by simp)
  | x :: r, [], _, _, h => by simpa using (h x).1 (by simp)
  | x :: r, y :: s, ha, hb, h => by
    rw [List.pairwise_cons] at ha hb
    have hxy : x = y := by
      rcases List.mem_cons.1 ((h x).1 (by simp)) with e | e
      · exact e
      rcases List.mem_cons.1 ((h y).2 (by simp)) with e' | e'
      · exact e'.symm
      have h1 := hb.1 x e
      have h2 := ha.1 y e'
      have := swo_ltE.trans _ _ _ h1 h2
      rw [swo_ltE.irrefl] at this
      cases this
    subst hxy
    rw [riseE_one r s ha.2 hb.2 fun z => ?_]
    have hn1 : ∀ z, z ∈ r → z ≠ x := fun z hz e => by have := ha.1 z hz; rw [e, swo_ltE.irrefl] at this; cases this
    have hn2 : ∀ z, z ∈ s → z ≠ x := fun z hz e => by have := hb.1 z hz; rw [e, swo_ltE.irrefl] at this; cases this
    have := h z
    simp only [List.mem_cons] at this
    exact ⟨fun hz => (this.1 (.inr hz)).resolve_left (hn1 z hz), fun hz => (this.2 (.inr hz)).resolve_left (hn2 z hz)⟩
def insE (e : S42) : List S42 → List S42
  | [] => [e]
  | x :: r => if ltE e x = true then e :: x :: r else x :: insE e r
theorem insE_mem (e : S42) : ∀ (l : List S42) x, x ∈ insE e l ↔ x = e ∨ x ∈ l
  | [], x => by simp [insE]
  | y :: r, x => by
    unfold insE
    split
    · simp
    · simp only [List.mem_cons, insE_mem e r x]
      constructor
      · rintro (h | h | h) <;> simp [h]
      · rintro (h | h | h) <;> simp [h]
theorem insE_rise (e : S42) : ∀ (l : List S42), l.Pairwise (fun x y => ltE x y = true) → e ∉ l → (insE e l).Pairwise (fun x y => ltE x y = true)
  | [], _, _ => by simp [insE]
  | y :: r, h, hn => by
    rw [List.pairwise_cons] at h
    simp only [List.mem_cons, not_or] at hn
    unfold insE
    split
    · rename_i hc
      rw [List.pairwise_cons, List.pairwise_cons]
      refine ⟨fun z hz => ?_, h⟩
      rcases List.mem_cons.1 hz with rfl | hz
      · exact hc
      · exact swo_ltE.trans _ _ _ hc (h.1 z hz)
    · rename_i hc
      rw [List.pairwise_cons]
      refine ⟨fun z hz => ?_, insE_rise e r h.2 hn.2⟩
      rcases (insE_mem e r z).1 hz with rfl | hz
      · rcases hb : ltE y z with _ | _
        · exact absurd (ltE_eq hb (by simpa using hc)).symm hn.1
        · rfl
      · exact h.1 z hz
end Go.Proofs.Ytfmlamheflbgdaa.PAll
end
section
namespace Go.Proofs.Ytfmlamheflbgdaa.PAll
open Go.RowKit Go.Proofs.YtfmlamheflbgdaaW.PrintWords Go.Proofs.YtfmlamheflbgdaaW.PrintLast Go.Sort
section
variable {α : Type} [Inhabited α]
theorem flat_part (enc : α → List Value) (k : Nat) (hk : ∀ x, (enc x).length = k) (d : Array α) (j : Nat) (hj : j < d.size) : ((flatK enc k d).toList.drop (j * k)).take k = enc d[j] := by
  have hb : j * k + k ≤ d.size * k := by have := Nat.mul_le_mul_right k (show j + 1 ≤ d.size from hj); rwa [Nat.add_mul, Nat.one_mul] at this
  apply List.ext_getElem
  · simp [hk]; omega
  · intro c h1 h2
    rw [hk] at h2
    have hlt : j * k + c < d.size * k := by omega
    have e1 : (j * k + c) / k = j := (blk_iff k j _ (by omega)).1 ⟨by omega, by omega⟩
    have e2 : (j * k + c) % k = c := by rw [Nat.mod_eq_sub_div_mul, e1]; omega
    have := get_flatK enc k d (j * k + c) hlt
    rw [e1, e2, getElem!_pos _ _ (by rw [size_flatK]; exact hlt), getElem!_pos d j hj, getElem!_pos (enc d[j]) c (by rw [hk]; exact h2)] at this
    simpa using this
theorem reps_flat (enc : α → List Value) (k : Nat) (hk : ∀ x, (enc x).length = k) (M : α → List Value → Prop) (d : Array α) (hM : ∀ x, M x (enc x)) : Reps M k d.toList (flatK enc k d).toList := by
  refine ⟨by simp, fun j p hp => ?_⟩
  obtain ⟨hj, rfl⟩ := List.getElem?_eq_some_iff.1 hp
  have hj' : j < d.size := by simpa using hj
  rw [flat_part enc k hk d j hj']
  exact hM _
theorem flat_of_reps (enc : α → List Value) (k : Nat) (hk : ∀ x, (enc x).length = k) (M : α → List Value → Prop) (hM : ∀ x cs, M x cs → cs = enc x) (xs : List α) (inner : List Value) (h : Reps M k xs inner) : inner = (flatK enc k xs.toArray).toList := by
  obtain ⟨hl, hr⟩ := h
  apply List.ext_getElem
  · simp [hl]
  · intro t h1 h2
    have ht : t < xs.length * k := by rw [← hl]; exact h1
    have k0 : 0 < k := by rcases Nat.eq_zero_or_pos k with h | h; · subst h; simp at ht
                          · exact h
    have hj : t / k < xs.length := Nat.div_lt_of_lt_mul (by rw [Nat.mul_comm]; exact ht)
    have hc : t % k < k := Nat.mod_lt _ k0
    have e := hM _ _ (hr (t / k) xs[t / k] (by simp [hj]))
    have g := get_flatK enc k xs.toArray t (by simpa using ht)
    rw [getElem!_pos _ _ (by rw [size_flatK]; simpa using ht), getElem!_pos xs.toArray (t / k) (by simpa using hj)] at g
    have g2 : (flatK enc k xs.toArray).toList[t] = (enc xs.toArray[t / k])[t % k]! := by rw [← g]; exact Array.getElem_toList (h := h2)
    rw [g2]
    have hd : t / k * k + t % k = t := by rw [Nat.mul_comm]; exact Nat.div_add_mod t k
    have hx : (inner.drop (t / k * k))[t % k]? = some inner[t] := by rw [List.getElem?_drop, hd]; simp
    have hy : ((inner.drop (t / k * k)).take k)[t % k]? = some inner[t] := by rw [List.getElem?_take, if_pos hc]; exact hx
    rw [e] at hy
    simp only [List.getElem_toArray]
    rw [getElem!_pos (enc xs[t / k]) (t % k) (by rw [hk]; exact hc)]
    obtain ⟨_, hz⟩ := List.getElem?_eq_some_iff.1 hy
    exact hz.symm
end
end Go.Proofs.Ytfmlamheflbgdaa.PAll
end
section
namespace Go.Proofs.Ytfmlamheflbgdaa.PAll
open Go.RowKit Go.Proofs.YtfmlamheflbgdaaW.PrintWords Go.Proofs.YtfmlamheflbgdaaW.PrintLast Go.Shelf Go.Lib Go.Sort
noncomputable def svT : TypeInfo := (Try.prog.info? 26).get (by kernel_rfl)
noncomputable def svE : TypeInfo := (Try.prog.info? 42).get (by kernel_rfl)
theorem svK (n : Nat) (h2 : 2 ≤ n) : Lib.swapperK n svE 25 = 9 := by
  have a : svE.hasPointers = false := by kernel_rfl
  have b : svE.bytes = 16 := by kernel_rfl
  have c : (n == 0) = false := by simp; omega
  have d : (n == 1) = false := by simp; omega
  simp [Lib.swapperK, a, b, c, d]
def encE (x : S42) : List Value := [.int .i64 x.f0, .int .i64 x.f1]
theorem encE_M {w : World} {base : Nat} {ok : Nat → Prop} (x : S42) : k42.M w base ok x (encE x) := k42_mkM w base ok x
theorem M_encE {w : World} {base : Nat} {ok : Nat → Prop} (x : S42) (cs : List Value) (h : k42.M w base ok x cs) : cs = encE x := k42_openM h
set_option maxHeartbeats 2000000 in
theorem lessE (blk off c Bs size : Nat) (W : World) (G H : Nat → Int) (hs : W.cell? ⟨Bs, 0, none⟩ = some (.slice (some ⟨blk, off, none⟩) size c))
    (hc : ∀ t, t < size → W.cell? ⟨blk, off + t * 2, none⟩ = some (.int .i64 (G t))) (hd : ∀ t, t < size → W.cell? ⟨blk, off + t * 2 + 1, none⟩ = some (.int .i64 (H t))) (i j : Nat) (hi : i < size) (hj : j < size) (_hsz : size < 4611686018427387904) :
    Calls Try.prog 22 #[.int .i64 i, .int .i64 j, .pointer (some ⟨Bs, 0, none⟩)] W fun e w' => e = .returned (.bool (decide (G i < G j) || (decide (G i = G j) && decide (H i < H j)))) ∧ ∃ q, w' = W.drewN q := by
  have ci := hc i hi
  have cj := hc j hj
  have di := hd i hi
  have dj := hd j hj
  by_cases h1 : G i < G j
  · have d1 : decide (G i < G j) = true := decide_eq_true h1
    go_enter Try.func22, Try.ntmps22
    go_wp2
    go_quiet (fail)
    go_wp2
    go_ret
    exact ⟨by rw [d1]; rfl, nq, rfl⟩
  · have d1 : decide (G i < G j) = false := decide_eq_false h1
    by_cases h2 : G i = G j
    · have e2 : (G i == G j) = true := beq_iff_eq.mpr h2
      have d2 : decide (G i = G j) = true := decide_eq_true h2
      go_enter Try.func22, Try.ntmps22
      go_wp2
      go_quiet (fail)
      go_wp2
      go_ret
      exact ⟨by rw [d1, d2]; simp, nq, rfl⟩
    · have e2 : (G i == G j) = false := beq_eq_false_iff_ne.mpr h2
      have d2 : decide (G i = G j) = false := decide_eq_false h2
      go_enter Try.func22, Try.ntmps22
      go_wp2
      go_quiet (fail)
      go_wp2
      go_ret
      exact ⟨by rw [d1, d2]; simp, nq, rfl⟩
def sort_Slice.f (l0 : List S42) : Option (List S42) := if l0.length < 4611686018427387904 then some (sortE l0) else none
theorem putK_block (w : World) (n g : Nat) (d : Array S42) (os : Array Obj) {cur : Array Value} {e : TypeId} {fr : Nat × Nat} (hg : w.heap[g]? = some (.cells cur e fr)) :
    (grow (putRowK encE 2 (Sort.ahead w n) g 0 d) os).heap[g]? = some (.cells (putCells id 0 (flatK encE 2 d) cur) e fr) := by
  have hlt : g < w.heap.size := (Array.getElem?_eq_some_iff.1 hg).1
  unfold grow putRowK putRow mapBlock Sort.ahead
  simp only
  rw [Array.getElem?_append_left (by simpa using hlt), Array.getElem?_modify, if_pos rfl, hg]
  rfl
theorem putK_other (w : World) (n g : Nat) (d : Array S42) (os : Array Obj) (k : Nat) (hk : k < w.heap.size) (hne : k ≠ g) :
    (grow (putRowK encE 2 (Sort.ahead w n) g 0 d) os).heap[k]? = w.heap[k]? := by
  unfold grow putRowK putRow mapBlock Sort.ahead
  simp only
  rw [Array.getElem?_append_left (by simpa using hk), Array.getElem?_modify, if_neg (fun e => hne e.symm)]
theorem putK_size (w : World) (n g : Nat) (d : Array S42) (os : Array Obj) : w.heap.size ≤ (grow (putRowK encE 2 (Sort.ahead w n) g 0 d) os).heap.size := by
  unfold grow putRowK putRow mapBlock Sort.ahead
  simp
theorem putK_take (F cur : Array Value) (h : F.size ≤ cur.size) : (putCells id 0 F cur).toList.take F.size = F.toList := by
  apply List.ext_getElem?
  intro j
  by_cases hj : j < F.size
  · have hj' : j < cur.size := by omega
    simp [putCells, hj, hj']
  · simp [List.getElem?_take, hj]
theorem growE (P0_ : Nat → Prop) (u9000_ : Value) (l0 : List S42) (w0 w : World) (os : Array Obj) (hB : Below w0.heap.size w0 w) (ho0 : Kd.R k42 42 w w0.heap.size P0_ u9000_ l0) :
    Kd.R k42 42 (grow w os) w0.heap.size (fun k_ => (P0_ k_ ∨ w.heap.size ≤ k_)) u9000_ l0 ∧ Below w0.heap.size w0 (grow w os) ∧ Kept w (grow w os) (fun k_ => P0_ k_) := by
  have hk : ∀ k, k < w.heap.size → (grow w os).heap[k]? = w.heap[k]? := fun k h => by
    unfold grow
    simp only
    rw [Array.getElem?_append_left h]
  have hs : w.heap.size ≤ (grow w os).heap.size := by unfold grow; simp
  exact ⟨Kd.R_mono (Kd.R_step ho0 (fun k _ h => hk k h)) (fun k h => .inl h), hB.trans ⟨rfl, rfl, rfl, hs, fun k h => hk k (Nat.lt_of_lt_of_le h hB.size)⟩, hs, fun k h _ => hk k h⟩
theorem sort_Slice.calls (P0_ : Nat → Prop) (u9000_ : Value) (l0 : List S42) (r1 : List S42) (w0 w : World) (Bs : Nat) (hB : Below w0.heap.size w0 w) (ho0 : Kd.R k42 42 w w0.heap.size P0_ u9000_ l0) (hbx : w.heap[Bs]? = some (.cells #[u9000_] 26 (0, 0))) (h : sort_Slice.f l0 = some r1) :
    Calls Try.prog 21 #[.iface 26 u9000_, .func (.func 22) #[] #[.pointer (some ⟨Bs, 0, none⟩)]] w fun e w' => e = .returned (.tuple #[]) ∧ Kd.R k42 42 w' w0.heap.size (fun k_ => (P0_ k_ ∨ w.heap.size ≤ k_)) u9000_ r1 ∧ Below w0.heap.size w0 w' ∧ Kept w w' (fun k_ => P0_ k_) := by
  unfold sort_Slice.f at h
  split at h
  ·
   rename_i hc
   obtain rfl := Option.some.inj h
   have hsz := (Kd.R_slice ho0)
   obtain ⟨A, c, rfl⟩ := hsz
   rcases Nat.lt_or_ge l0.length 2 with hl | hl
   ·
    have e0 : sortE l0 = l0 := by unfold sortE; rw [if_neg (by omega)]
    rw [e0]
    have tiny : ∀ (f : Nat), Try.prog.funcs.findIdx? (·.name == "internal/reflectlite" ++ ".Swapper$" ++ toString (swapperK l0.length svE 25)) = some f → Calls Try.prog 21 #[.iface 26 (.slice A l0.length c), .func (.func 22) #[] #[.pointer (some ⟨Bs, 0, none⟩)]] w fun e w' => e = .returned (.tuple #[]) ∧ ∃ os, w' = grow w os := fun f hf =>
      Any.sort_Slice_tiny Try.sv6 26 42 svT svE (by kernel_rfl) (by kernel_rfl) (by kernel_rfl) (by kernel_rfl) 25 (fun _ => by kernel_rfl) A l0.length c (by omega) f hf (.func 22) #[] #[.pointer (some ⟨Bs, 0, none⟩)] w
    have main : Calls Try.prog 21 #[.iface 26 (.slice A l0.length c), .func (.func 22) #[] #[.pointer (some ⟨Bs, 0, none⟩)]] w fun e w' => e = .returned (.tuple #[]) ∧ ∃ os, w' = grow w os := by
      rcases (show l0.length = 0 ∨ l0.length = 1 by omega) with hn | hn
      · exact tiny 29 (by rw [hn]; kernel_rfl)
      exact tiny 30 (by rw [hn]; kernel_rfl)
    refine main.mono ?_
    rintro e w' ⟨rfl, os, rfl⟩
    exact ⟨rfl, growE P0_ _ l0 w0 w os hB ho0⟩
   obtain ⟨hP, inner, ⟨hlen, hown⟩, hr⟩ := ho0
   rcases hown with ⟨_, h0⟩ | ⟨g, cap, cur, he, hbg, hg, hnc, hcm, hcs, htake⟩
   · omega
   injection he with hA _ hcap
   subst hA hcap
   have hlt : g < w.heap.size := (Array.getElem?_eq_some_iff.1 hg).1
   have hin : inner = (flatK encE 2 l0.toArray).toList := flat_of_reps encE 2 (fun _ => rfl) _ (fun x cs h => M_encE x cs h) l0 inner hr
   have hcur : (flatK encE 2 l0.toArray).size ≤ cur.size := by rw [size_flatK, hcs]; simp only [List.size_toArray]; show l0.length * 2 ≤ c * 2; omega
   have hBsl : Bs < w.heap.size := (Array.getElem?_eq_some_iff.1 hbx).1
   have hne : Bs ≠ g := by
     rintro rfl
     rw [hg] at hbx
     injection hbx with hbx
     injection hbx with _ hbx
     exact absurd hbx (by decide)
   have hBs : w.cell? ⟨Bs, 0, none⟩ = some (.slice (some ⟨g, 0, none⟩) l0.length c) := by simp [World.cell?, hbx]
   have hH : HoldsK encE 2 w g 0 l0.toArray := by
     intro j hj
     have hj2 : j < l0.length * 2 := by simpa using hj
     have hx : cur.toList[j]? = some (flatK encE 2 l0.toArray)[j]! := by
       have e : (cur.toList.take (l0.length * 2))[j]? = cur.toList[j]? := by rw [List.getElem?_take, if_pos hj2]
       rw [← e]
       have e2 : cur.toList.take (l0.length * 2) = inner := htake
       rw [e2, hin, getElem!_pos _ j hj]
       simp [hj2]
     have hx' : cur[j]? = some (flatK encE 2 l0.toArray)[j]! := by simpa using hx
     refine ⟨?_, ?_⟩
     ·
      simp only [World.cell?, hg, Nat.zero_add]
      rw [hx']
      rfl
     simp [World.frozen?, hg]
   have hless : LessReadsK Try.prog 22 #[.pointer (some ⟨Bs, 0, none⟩)] encE 2 ltE g 0 l0.toArray.size w := by
     intro m os dk hs i j hi hj
     have e : sortWorldK encE 2 w g 0 m dk os = putRowK encE 2 (grow (Sort.ahead w m) os) g 0 dk := by
       unfold sortWorldK; rw [putRowK_grow _ _ (Sort.ahead w m) _ g 0 _ hlt]
     have hHg : HoldsK encE 2 (grow (Sort.ahead w m) os) g 0 l0.toArray := holdsK_grow _ _ _ _ g 0 _ hlt (holdsK_ahead _ _ _ _ _ _ _ hH)
     have hHd := holdsK_putRowK _ _ _ g 0 l0.toArray dk hHg hs
     refine lessE g 0 c Bs l0.toArray.size _ (fun t => dk[t]!.f0) (fun t => dk[t]!.f1) ?_ (fun t ht => ?_) (fun t ht => ?_) i j hi hj (by simpa using hc)
     · rw [e, cell?_putRowK_other _ _ _ g 0 dk _ (by exact hne), cell?_grow _ _ _ (by exact hBsl)]; exact hBs
     · rw [e]; exact (hHd.cell (i := t) (c := 0) (by omega) (by omega)).1
     rw [e]; exact (hHd.cell (i := t) (c := 1) (by omega) (by omega)).1
   have hl' : 2 ≤ l0.toArray.size := by simpa using hl
   have cc := Any.sort_Slice_cells_eq Try.sv6 26 42 svT svE (by kernel_rfl) (by kernel_rfl) (by kernel_rfl) (by kernel_rfl) 25 (fun _ => by kernel_rfl) encE 2 (fun _ => rfl) (by kernel_rfl) (fun _ => by kernel_rfl)
     (fun x v hv => by simp [encE] at hv; rcases hv with rfl | rfl <;> rfl) ltE swo_ltE 22 _
     (enters_of Try.func22 (by kernel_rfl) rfl) g 0 c l0.toArray hl' (by simpa using hc) 37 (by rw [svK _ hl']; kernel_rfl) false
     (fun args W => run_callFunc_extern Try.func37 (by kernel_rfl) (by kernel_rfl) (by kernel_rfl) (e := Extern.ReflectliteSwapper.swap false) (by kernel_rfl) args W) w hless hH hlt
   refine Calls.mono cc ?_
   rintro e w' ⟨rfl, n, os, rfl⟩
   have hd : (pdq ltE l0.toArray 0 l0.toArray.size (Lib.bitLen l0.toArray.size) true true).toList = sortE l0 := by unfold sortE; rw [if_pos hl]
   generalize pdq ltE l0.toArray 0 l0.toArray.size (Lib.bitLen l0.toArray.size) true true = d' at hd
   have hds : d'.size = l0.length := by rw [← Array.length_toList, hd, sortE_len]
   refine ⟨rfl, ⟨fun k hk => .inl (hP k hk), (flatK encE 2 d').toList, ⟨?_, .inr ⟨g, c, _, by rw [sortE_len], hbg, putK_block w n g _ os hg, by rw [sortE_len]; exact hnc, hcm, by simp [putCells]; exact hcs, ?_⟩⟩, ?_⟩, ?_, ?_⟩
   · rw [sortE_len, Array.length_toList, size_flatK, hds]; rfl
   ·
    have hF : (flatK encE 2 d').size = l0.length * 2 := by rw [size_flatK, hds]
    have := putK_take (flatK encE 2 d') cur (by rw [hF, hcs]; show l0.length * 2 ≤ c * 2; omega)
    rw [hF] at this
    rw [sortE_len]
    exact this
   ·
    rw [← hd]
    exact reps_flat encE 2 (fun _ => rfl) _ d' (fun x => encE_M x)
   ·
    refine hB.trans ⟨rfl, rfl, rfl, putK_size w n g _ os, fun k hk => ?_⟩
    exact putK_other w n g _ os k (Nat.lt_of_lt_of_le hk hB.size) (by omega)
   exact ⟨putK_size w n g _ os, fun k hk hne' => putK_other w n g _ os k hk (fun e => hne' (by rw [e]; exact hP g rfl))⟩
  cases h
end Go.Proofs.Ytfmlamheflbgdaa.PAll
end
