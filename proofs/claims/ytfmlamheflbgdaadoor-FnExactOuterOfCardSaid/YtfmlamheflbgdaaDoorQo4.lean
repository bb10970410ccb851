/- For each function of the Go program that is named here: its Lean function, and that Go comes to just its answer. Written by a program of the session out of the translation. -/
import Derived.Test.YtfmlamheflbgdaaDoorQo0
import Derived.Test.YtfmlamheflbgdaaDoorQo2
import Derived.Test.YtfmlamheflbgdaaDoorQo3
section
namespace Go.Proofs.YtfmlamheflbgdaaDoor.PAll
open Go.RowKit Go.Proofs.YtfmlamheflbgdaaDoorW.PrintWords Go.Proofs.YtfmlamheflbgdaaDoorW.PrintLast Go.Proofs.YtfmlamheflbgdaaDoorW.PrintMore
attribute [local go_sem] max2_int min2_int max_two min_two max_three min_three max_four min_four
set_option linter.unusedVariables false
set_option linter.unusedSimpArgs false
attribute [local go_sem high] eqA59
mutual
def spec_OuterOf.j0 : Nat → List (S55) → Int → List (S59) → Bool → Option ((List (S59)))
  | 0, _, _, _, _ => none
  | k + 1, x0, x1, x5, x29 => if x29 = true then (some x5) else (if 0 ≤ x1 then (if x1 < (x0.length : Int) then ((spec_StartOf.f k x0 ((rd_T55 x0 x1).f1)).bind fun t285 => (spec_OuterOf.l0 k x0 x1 x5 t285)) else (none)) else (none))
def spec_OuterOf.l0 : Nat → List (S55) → Int → List (S59) → Int → Option ((List (S59)))
  | 0, _, _, _, _ => none
  | k + 1, x0, x1, x5, x6 => if 0 ≤ x1 then (if x1 < (x0.length : Int) then (if x6 ≤ ((rd_T55 x0 x1).f1) then (if 0 ≤ x6 then (if x6 < (x0.length : Int) then (if ((rd_T55 x0 x6).f0) = 1 then ((spec_BinderOf.f k x0 x6).bind fun bt288 => (if bt288.1 < x1 then (if bt288.1 ≥ 0 then ((spec_StartOf.f k x0 ((rd_T55 x0 x1).f1)).bind fun t292 => (if bt288.1 ≥ t292 then (spec_OuterOf.j2 k x0 x1 x5 x6 true bt288.1 bt288.2) else (if bt288.1 < 0 then (spec_OuterOf.j2 k x0 x1 x5 x6 true bt288.1 bt288.2) else (if bt288.1 = x1 then ((spec_l16Param.f ((rd_T55 x0 x1).f0) ((rd_T55 x0 x1).f1) ((rd_T55 x0 x1).f2) ((rd_T55 x0 x1).f3) ((rd_T55 x0 x1).f4) ((rd_T55 x0 x1).f5) ((rd_T55 x0 x1).f6)).bind fun t294 => (spec_OuterOf.j2 k x0 x1 x5 x6 (bt288.2 == t294) bt288.1 bt288.2)) else (spec_OuterOf.j2 k x0 x1 x5 x6 false bt288.1 bt288.2))))) else (if bt288.1 < 0 then (spec_OuterOf.j2 k x0 x1 x5 x6 true bt288.1 bt288.2) else (if bt288.1 = x1 then ((spec_l16Param.f ((rd_T55 x0 x1).f0) ((rd_T55 x0 x1).f1) ((rd_T55 x0 x1).f2) ((rd_T55 x0 x1).f3) ((rd_T55 x0 x1).f4) ((rd_T55 x0 x1).f5) ((rd_T55 x0 x1).f6)).bind fun t296 => (spec_OuterOf.j2 k x0 x1 x5 x6 (bt288.2 == t296) bt288.1 bt288.2)) else (spec_OuterOf.j2 k x0 x1 x5 x6 false bt288.1 bt288.2)))) else (if bt288.1 < 0 then (spec_OuterOf.j2 k x0 x1 x5 x6 true bt288.1 bt288.2) else (if bt288.1 = x1 then ((spec_l16Param.f ((rd_T55 x0 x1).f0) ((rd_T55 x0 x1).f1) ((rd_T55 x0 x1).f2) ((rd_T55 x0 x1).f3) ((rd_T55 x0 x1).f4) ((rd_T55 x0 x1).f5) ((rd_T55 x0 x1).f6)).bind fun t298 => (spec_OuterOf.j2 k x0 x1 x5 x6 (bt288.2 == t298) bt288.1 bt288.2)) else (spec_OuterOf.j2 k x0 x1 x5 x6 false bt288.1 bt288.2))))) else (spec_OuterOf.l0 k x0 x1 x5 (wrap64 (x6 + 1)))) else (none)) else (none)) else (some x5)) else (none)) else (none)
def spec_OuterOf.j2 : Nat → List (S55) → Int → List (S59) → Int → Bool → Int → Int → Option ((List (S59)))
  | 0, _, _, _, _, _, _, _ => none
  | k + 1, x0, x1, x5, x6, x97, x291000, x291001 => if x97 = true then (spec_OuterOf.l0 k x0 x1 x5 (wrap64 (x6 + 1))) else (spec_OuterOf.l1 k x0 x1 x5 x6 false 0 x291000 x291001)
def spec_OuterOf.l1 : Nat → List (S55) → Int → List (S59) → Int → Bool → Int → Int → Int → Option ((List (S59)))
  | 0, _, _, _, _, _, _, _, _ => none
  | k + 1, x0, x1, x5, x6, x8, x9, x291000, x291001 => if x9 < (x5.length : Int) then (if x8 = true then (spec_OuterOf.l1 k x0 x1 x5 x6 true (wrap64 (x9 + 1)) x291000 x291001) else (if 0 ≤ x9 then (spec_OuterOf.l1 k x0 x1 x5 x6 (((rd_T59 x5 x9).f0) == x291000 && (((rd_T59 x5 x9).f1) == x291001)) (wrap64 (x9 + 1)) x291000 x291001) else (none))) else (if x8 = true then (spec_OuterOf.l0 k x0 x1 x5 (wrap64 (x6 + 1))) else (if x5.length < 8796093022208 then (spec_OuterOf.l0 k x0 x1 (x5 ++ [(⟨x291000, x291001⟩ : S59)]) (wrap64 (x6 + 1))) else (none)))
end
def spec_OuterOf.f (k : Nat) (l0 : List (S55)) (a1 : Int) : Option ((List (S59))) := (some (([] : List (S59)) : List (S59))).bind fun y277 => ((spec_NodesOk.f k l0).bind fun t280 => (if t280 = true then ((spec_l1In.f a1 0 (wrap64 ((l0.length : Int) - 1))).bind fun t281 => (if t281 = true then (if 0 ≤ a1 then (if a1 < (l0.length : Int) then ((spec_l16Lambda.f ((rd_T55 l0 a1).f0) ((rd_T55 l0 a1).f1) ((rd_T55 l0 a1).f2) ((rd_T55 l0 a1).f3) ((rd_T55 l0 a1).f4) ((rd_T55 l0 a1).f5) ((rd_T55 l0 a1).f6)).bind fun t283 => (spec_OuterOf.j0 k l0 a1 y277 (!t283))) else (none)) else (none)) else (spec_OuterOf.j0 k l0 a1 y277 true))) else (spec_OuterOf.j0 k l0 a1 y277 true)))
def spec_OuterOf.T9 : Bool × List (List Nat × List Nat) := (true, [([], []), ([0], [0]), ([], []), ([1, 2], [1, 2]), ([3], [3]), ([4], [4]), ([5, 4], [4, 5]), ([6, 4], [4, 6]), ([4, 7], [4, 7]), ([8, 4], [8]), ([9], [9]), ([10, 9], [9, 10]), ([9], [9]), ([9], [9]), ([9], [9]), ([13, 14, 9], [9, 13, 14]), ([15, 9], [9, 15]), ([16, 9], [9, 16]), ([12, 17, 9, 9], [9, 12, 17]), ([11, 18, 9], [9, 11, 18]), ([9, 19], [9, 19]), ([20, 18], [20]), ([21], [21]), ([22, 21], [21, 22]), ([23, 21], [21, 23]), ([21, 24], [21, 24]), ([25, 21], [25]), ([26], [26]), ([27, 26], [26, 27]), ([26], [26]), ([28, 29, 26], [26, 28, 29]), ([30, 26, 26], [26, 30]), ([31], [31]), ([32, 31], [31, 32]), ([31], [31]), ([31], [31]), ([34, 35, 31], [31, 34, 35]), ([36, 31], [31, 36]), ([37, 31, 31], [31, 37]), ([33, 38, 31], [31, 33, 38]), ([31, 39, 26], [26, 31, 39]), ([26, 40], [26, 40])])
def spec_OuterOf.B9 : List Nat := [0, 1, 0, 7, 15, 31, 63, 127, 255, 511, 1023, 2047, 1023, 1023, 1023, 25599, 58367, 123903, 259071, 524287, 1048575, 2097151, 4194303, 8388607, 16777215, 33554431, 67108863, 134217727, 268435455, 134217727, 1073741823, 2147483647, 4294967295, 8589934591, 4294967295, 4294967295, 55834574847, 124554051583, 261993005055, 549755813887, 1099511627775, 2199023255551]
theorem spec_OuterOf.tab9 : rtab .any (opsOf Tryd.f39 9) = spec_OuterOf.T9 := by kernel_rfl
theorem spec_OuterOf.bits9 : waitsOk spec_OuterOf.T9.2 spec_OuterOf.B9 = true := by kernel_rfl
def spec_OuterOf.T14 : Bool × List (List Nat × List Nat) := (true, [([], []), ([0], [0]), ([1], [1]), ([1], [1]), ([2, 3, 1], [1, 2, 3]), ([4, 1], [1, 4]), ([1], [1]), ([5, 6, 1], [1, 5, 6]), ([1, 7], [1, 7]), ([8, 1, 0, 1, 2, 3, 4, 5, 6, 7, 8], [0, 8])])
def spec_OuterOf.B14 : List Nat := [0, 1, 3, 3, 15, 31, 3, 127, 255, 511]
theorem spec_OuterOf.tab14 : rtab .any (opsOf Tryd.f39 14) = spec_OuterOf.T14 := by kernel_rfl
theorem spec_OuterOf.bits14 : waitsOk spec_OuterOf.T14.2 spec_OuterOf.B14 = true := by kernel_rfl
set_option maxHeartbeats 8000000 in
set_option maxRecDepth 100000 in
theorem spec_OuterOf.calls (k : Nat) (A0 : Option Addr) (c0 : Nat) (l0 : List (S55)) (a1 : Int) (r : List (S59)) (w : World) (hr0 : Kd.C k55 w A0 l0.length l0) (hc0 : l0.length ≤ c0) (h : spec_OuterOf.f k l0 a1 = some r) :
    Calls Tryd.prog 39 #[.slice A0 l0.length c0, .int .i64 a1] w fun e w' => ∃ v0_ : Value, e = .returned (v0_) ∧ Kd.R k59 59 w' w.heap.size (fun _ => True) v0_ r ∧ Below w.heap.size w w' := by
  have hu55 := Tryd.underlying55
  have hu59 := Tryd.underlying59
  have HR0 := Ad_.mk hr0
  have HC0 := Ad_.mk hc0
  clear hr0 hc0
  have HB := Ad_.mk (Below.refl w.heap.size w)
  have H := h
  unfold spec_OuterOf.f at H
  clear h
  obtain ⟨y277, hy277⟩ : ∃ y_ : List (S59), y_ = (([] : List (S59))) := ⟨_, rfl⟩
  replace H : ((spec_NodesOk.f k l0).bind fun t280 => (if t280 = true then ((spec_l1In.f a1 0 (wrap64 ((l0.length : Int) - 1))).bind fun t281 => (if t281 = true then (if 0 ≤ a1 then (if a1 < (l0.length : Int) then ((spec_l16Lambda.f ((rd_T55 l0 a1).f0) ((rd_T55 l0 a1).f1) ((rd_T55 l0 a1).f2) ((rd_T55 l0 a1).f3) ((rd_T55 l0 a1).f4) ((rd_T55 l0 a1).f5) ((rd_T55 l0 a1).f6)).bind fun t283 => (spec_OuterOf.j0 k l0 a1 y277 (!t283))) else (none)) else (none)) else (spec_OuterOf.j0 k l0 a1 y277 true))) else (spec_OuterOf.j0 k l0 a1 y277 true))) = some r := by first | (rw [hy277]; with_reducible exact H) | (have H2_ := (Option.bind_some _ _).symm.trans H; rw [hy277]; with_reducible exact H2_) | (have H2_ := (Option.bind_some _ _).symm.trans H; with_reducible exact H2_) | with_reducible exact H | (rw [hy277]; exact H) | exact H
  have Ny277 := Ad_.mk hy277
  clear hy277
  have HC3 := Ad_.mk H
  clear H
  go_enter Tryd.func39, Tryd.ntmps39
  go_upto_region 2 with (first | ((with_reducible refine gD_ (N := 10) rfl ?_); (try (refine gate_guard (by rfl) ?_; dsimp only)); refine Kd.R_lit k59 _ 59 ?hg (N := 10) ?hd (xs := ([] : List (S59))) (inner := []) (ok := fun _ => True) (okp := fun _ => True) ?hr ?hp (fun _ hk => hk) trivial (Below.refl _ _) (Nat.le_refl _) (by simp) ?_; (case hd => rfl); (case hg => rfl); (case hr => first | (go_simp; done) | (go_simp; rfl)); (case hp => exact (Reps.none _ _)); intro v278 w4 ho5 hb hg_ hnew_; clear hg_ hnew_; (first | rw [← Ny277.out] at ho5 | (simp only [Int.reduceToNat] at ho5; rw [← Ny277.out] at ho5)); have n0_ := Ad_.mk (Kd.R_lower ho5 (bZ_ (Bn_ HB.out))); have n1_ := Ad_.mk (bQ_ HB.out hb); clear HB; have HO279 := n0_; have HB := n1_; clear n0_ n1_; clear hb ho5))
  (try simp only [Act.put, List.setIfInBounds_toArray, List.set_cons_zero, List.set_cons_succ])
  go_cut [29] (fun v29 wc => ∃ (kq : Nat) (x29_2 : Bool), v29 = .bool x29_2 ∧ Ad_ (spec_OuterOf.j0 kq l0 a1 y277 x29_2 = some r) ∧ Ad_ (kq ≤ k) ∧ Ad_ (Kd.R k59 59 wc w.heap.size (fun _ => True) v278 y277) ∧ Ad_ (Below w.heap.size w wc))
  case first =>
    have H := HC3.out
    clear HC3
    replace H := Option.bind_eq_some_iff.mp H
    obtain ⟨t280, A60, H⟩ := H
    try dsimp only at H
    have A6 := Ad_.mk A60
    clear A60
    by_cases c7 : t280 = true
    rotate_left
    ·
     replace c7 := Bool.eq_false_iff.mpr c7
     subst c7
     have H1 : (spec_OuterOf.j0 k l0 a1 y277 true) = some r := by rw [if_neg (show ¬ (false = true) by decide)] at H; exact H
     clear H
     have H := H1
     clear H1
     have H' := Ad_.mk H
     clear H
     go_wp2_with (first | ((with_reducible refine gC_ (f := 49) rfl ?_); refine gM_ (some 12) rfl rfl Tryd.func49 (by kernel_rfl) rfl #[.slice A0 l0.length c0] rfl ?_; (with_reducible refine (spec_NodesOk.calls k _ _ l0 false _ ?side1 ?side2 A6.out).mono ?_); (case side1 => exact Cb_ HR0.out HB.out); (case side2 => exact HC0.out); rintro e w16 ⟨rfl, hb⟩; refine ⟨_, rfl, ?_⟩; replace HO279 := Ad_.mk (Rb_ HO279.out hb); replace HB := Ad_.mk (bQ_ HB.out hb); (try clear hb)))
     go_meet
     case rel => exact ⟨_, (true), fs_, H', ⟨by first | omega | exact Nat.le_refl _⟩, ⟨Ro_ HO279.out⟩, ⟨Bn_ HB.out⟩⟩
    subst c7
    have H1 := H
    rw [if_pos rfl] at H1
    clear H
    have H := H1
    clear H1
    replace H := Option.bind_eq_some_iff.mp H
    obtain ⟨t281, A80, H⟩ := H
    try dsimp only at H
    have A8 := Ad_.mk A80
    clear A80
    by_cases c9 : t281 = true
    rotate_left
    ·
     replace c9 := Bool.eq_false_iff.mpr c9
     subst c9
     have H1 : (spec_OuterOf.j0 k l0 a1 y277 true) = some r := by rw [if_neg (show ¬ (false = true) by decide)] at H; exact H
     clear H
     have H := H1
     clear H1
     have H' := Ad_.mk H
     clear H
     go_wp2_with (first | ((with_reducible refine gC_ (f := 49) rfl ?_); refine gM_ (some 12) rfl rfl Tryd.func49 (by kernel_rfl) rfl #[.slice A0 l0.length c0] rfl ?_; (with_reducible refine (spec_NodesOk.calls k _ _ l0 true _ ?side1 ?side2 A6.out).mono ?_); (case side1 => exact Cb_ HR0.out HB.out); (case side2 => exact HC0.out); rintro e w15 ⟨rfl, hb⟩; refine ⟨_, rfl, ?_⟩; replace HO279 := Ad_.mk (Rb_ HO279.out hb); replace HB := Ad_.mk (bQ_ HB.out hb); (try clear hb)) | (go_at_call 68; (with_reducible refine (spec_l1In.calls a1 0 (wrap64 ((l0.length : Int) - 1)) false _ A8.out).mono ?_); rintro e w' ⟨rfl, ⟨nd, rfl⟩⟩))
     go_meet
     case rel => exact ⟨_, (true), fs_, H', ⟨by first | omega | exact Nat.le_refl _⟩, ⟨Ro_ HO279.out⟩, ⟨Bn_ HB.out⟩⟩
    subst c9
    have H1 := H
    rw [if_pos rfl] at H1
    clear H
    have H := H1
    clear H1
    by_cases c10 : 0 ≤ a1
    rotate_left
    ·
     rw [if_neg c10] at H
     exact absurd H (by simp)
    rw [if_pos c10] at H
    have c10b0 := decide_eq_true c10
    clear c10
    (first | rw [c10b0] | (simp only [i64_w, i32_w]; rw [c10b0]) | skip)
    by_cases c11 : a1 < (l0.length : Int)
    rotate_left
    ·
     rw [if_neg c11] at H
     exact absurd H (by simp)
    rw [if_pos c11] at H
    have c11b0 := decide_eq_true c11
    clear c11
    replace H := Option.bind_eq_some_iff.mp H
    obtain ⟨t283, A120, H⟩ := H
    try dsimp only at H
    have A12 := Ad_.mk A120
    clear A120
    have H' := Ad_.mk H
    clear H
    go_wp2_with (first | ((with_reducible refine gC_ (f := 49) rfl ?_); refine gM_ (some 12) rfl rfl Tryd.func49 (by kernel_rfl) rfl #[.slice A0 l0.length c0] rfl ?_; (with_reducible refine (spec_NodesOk.calls k _ _ l0 true _ ?side1 ?side2 A6.out).mono ?_); (case side1 => exact Cb_ HR0.out HB.out); (case side2 => exact HC0.out); rintro e w13 ⟨rfl, hb⟩; refine ⟨_, rfl, ?_⟩; replace HO279 := Ad_.mk (Rb_ HO279.out hb); replace HB := Ad_.mk (bQ_ HB.out hb); (try clear hb)) | (go_at_call 68; (with_reducible refine (spec_l1In.calls a1 0 (wrap64 ((l0.length : Int) - 1)) true _ A8.out).mono ?_); rintro e w' ⟨rfl, ⟨nd, rfl⟩⟩; have p282 : 0 ≤ (a1 : Int) := od_; have q282 : a1 < (l0.length : Int) := od_; obtain ⟨ad282, e282, hx282_0, hx282_1, hx282_2, hx282_3, hx282_4, hx282_5, hx282_6⟩ := at_T55 HR0.out a1 p282 q282; cases e282; replace hx282_0 := pB_ HB.out hx282_0; replace hx282_1 := pB_ HB.out hx282_1; replace hx282_2 := pB_ HB.out hx282_2; replace hx282_3 := pB_ HB.out hx282_3; replace hx282_4 := pB_ HB.out hx282_4; replace hx282_5 := pB_ HB.out hx282_5; replace hx282_6 := pB_ HB.out hx282_6; replace p282 := eq_true p282; replace q282 := eq_true q282) | (go_at_call 70; (with_reducible refine (spec_l16Lambda.calls ((rd_T55 l0 a1).f0) ((rd_T55 l0 a1).f1) ((rd_T55 l0 a1).f2) ((rd_T55 l0 a1).f3) ((rd_T55 l0 a1).f4) ((rd_T55 l0 a1).f5) ((rd_T55 l0 a1).f6) t283 _ A12.out).mono ?_); rintro e w14 ⟨rfl, hb⟩; replace HO279 := Ad_.mk (Rb_ HO279.out hb); replace HB := Ad_.mk (bQ_ HB.out hb); (try clear hb)))
    go_meet
    case rel => exact ⟨_, (!t283), fs_, H', ⟨by first | omega | exact Nat.le_refl _⟩, ⟨Ro_ HO279.out⟩, ⟨Bn_ HB.out⟩⟩
  case rest =>
    clear HC3
    try clear p2
    try clear q2
    try clear hx2
    try clear p6
    try clear c10b0
    try clear c11b0
    try clear hx282_0
    try clear hx282_1
    try clear hx282_2
    try clear hx282_3
    try clear hx282_4
    try clear hx282_5
    try clear hx282_6
    try clear p282
    try clear q282
    obtain ⟨kq, x29_2, rfl, HA, HJ2, HO_5, HB⟩ := hcut
    cases kq with
    | zero => exact absurd HA.out (by simp [spec_OuterOf.j0])
    | succ kj2 =>
      have H := HA.out
      clear HA
      simp only [spec_OuterOf.j0] at H
      by_cases c17 : x29_2 = true
      ·
       subst c17
       have H1 : (some y277) = some r := by rw [if_pos rfl] at H; exact H
       clear H
       have H := H1
       clear H1
       obtain rfl := Option.some.inj H
       go_wp2
       go_ret
       exact ⟨_, er_, by (with_reducible repeat (first | apply Kd.R_alloc | apply Kd.R_drewN | apply Kd.R_drew)); exact HO_5.out, Bn_ HB.out⟩
      replace c17 := Bool.eq_false_iff.mpr c17
      subst c17
      have H1 : (if 0 ≤ a1 then (if a1 < (l0.length : Int) then ((spec_StartOf.f kj2 l0 ((rd_T55 l0 a1).f1)).bind fun t285 => (spec_OuterOf.l0 kj2 l0 a1 y277 t285)) else (none)) else (none)) = some r := by rw [if_neg (show ¬ (false = true) by decide)] at H; exact H
      clear H
      have H := H1
      clear H1
      by_cases c18 : 0 ≤ a1
      rotate_left
      ·
       rw [if_neg c18] at H
       exact absurd H (by simp)
      rw [if_pos c18] at H
      have c18b0 := decide_eq_true c18
      clear c18
      by_cases c19 : a1 < (l0.length : Int)
      rotate_left
      ·
       rw [if_neg c19] at H
       exact absurd H (by simp)
      rw [if_pos c19] at H
      have c19b0 := decide_eq_true c19
      clear c19
      replace H := Option.bind_eq_some_iff.mp H
      obtain ⟨t285, A200, H⟩ := H
      try dsimp only at H
      have A20 := Ad_.mk A200
      clear A200
      have H' := Ad_.mk H
      clear H
      have p284 : 0 ≤ (a1 : Int) := od_
      have q284 : a1 < (l0.length : Int) := od_
      obtain ⟨ad284, e284, hx284_0, hx284_1, hx284_2, hx284_3, hx284_4, hx284_5, hx284_6⟩ := at_T55 HR0.out a1 p284 q284
      cases e284
      replace hx284_0 := pB_ HB.out hx284_0
      replace hx284_1 := pB_ HB.out hx284_1
      replace hx284_2 := pB_ HB.out hx284_2
      replace hx284_3 := pB_ HB.out hx284_3
      replace hx284_4 := pB_ HB.out hx284_4
      replace hx284_5 := pB_ HB.out hx284_5
      replace hx284_6 := pB_ HB.out hx284_6
      replace p284 := eq_true p284
      replace q284 := eq_true q284
      go_wp2_with (first | ((with_reducible refine gC_ (f := 60) rfl ?_); refine gM_ (some 37) rfl rfl Tryd.func60 (by kernel_rfl) rfl #[.slice (some ad284) l0.length c0, .int .i64 ((rd_T55 l0 a1).f1)] rfl ?_; (with_reducible refine (spec_StartOf.calls kj2 _ _ l0 ((rd_T55 l0 a1).f1) t285 _ ?side1 ?side2 A20.out).mono ?_); (case side1 => exact Cb_ HR0.out HB.out); (case side2 => exact HC0.out); rintro e w21 ⟨rfl, hb⟩; refine ⟨_, rfl, ?_⟩; replace HO_5 := Ad_.mk (Rb_ HO_5.out hb); replace HB := Ad_.mk (bQ_ HB.out hb); (try clear hb)))
      go_loopg [5, 6] kj2 (fun kq v5 v6 w' => ∃ (x5_2 : List (S59)) (x6_2 : Int), v6 = .int .i64 x6_2 ∧ Ad_ (spec_OuterOf.l0 kq l0 a1 x5_2 x6_2 = some r) ∧ Ad_ (kq ≤ kj2) ∧ Ad_ (Kd.R k59 59 w' w.heap.size (fun _ => True) v5 x5_2) ∧ Ad_ (Below w.heap.size w w'))
      case atStart => exact ⟨(y277), (t285), fs_, H', ⟨Nat.le_refl _⟩, ⟨Ro_ HO_5.out⟩, ⟨Bn_ HB.out⟩⟩
      case round =>
        clear H'
        try clear p2
        try clear q2
        try clear hx2
        try clear p6
        try clear c10b0
        try clear c11b0
        try clear c18b0
        try clear c19b0
        try clear hx282_0
        try clear hx282_1
        try clear hx282_2
        try clear hx282_3
        try clear hx282_4
        try clear hx282_5
        try clear hx282_6
        try clear hx284_0
        try clear hx284_1
        try clear hx284_2
        try clear hx284_3
        try clear hx284_4
        try clear hx284_5
        try clear hx284_6
        try clear p2
        try clear p282
        try clear p284
        try clear p6
        try clear q2
        try clear q282
        try clear q284
        obtain ⟨x5_2, x6_2, rfl, HA, HK2, HO_5, HB⟩ := hrel
        cases gk with
        | zero => exact absurd HA.out (by simp [spec_OuterOf.l0])
        | succ k2 =>
          have H := HA.out
          clear HA
          simp only [spec_OuterOf.l0] at H
          by_cases c22 : 0 ≤ a1
          rotate_left
          ·
           rw [if_neg c22] at H
           exact absurd H (by simp)
          rw [if_pos c22] at H
          have c22b0 := decide_eq_true c22
          clear c22
          by_cases c23 : a1 < (l0.length : Int)
          rotate_left
          ·
           rw [if_neg c23] at H
           exact absurd H (by simp)
          rw [if_pos c23] at H
          have c23b0 := decide_eq_true c23
          clear c23
          by_cases c24 : x6_2 ≤ ((rd_T55 l0 a1).f1)
          rotate_left
          ·
           rw [if_neg c24] at H
           have c24b0 := decide_eq_false c24
           clear c24
           obtain rfl := Option.some.inj H
           have p286 : 0 ≤ (a1 : Int) := od_
           have q286 : a1 < (l0.length : Int) := od_
           obtain ⟨ad286, e286, hx286_0, hx286_1, hx286_2, hx286_3, hx286_4, hx286_5, hx286_6⟩ := at_T55 HR0.out a1 p286 q286
           obtain rfl : ad284 = ad286 := (by injection e286)
           replace hx286_0 := pB_ HB.out hx286_0
           replace hx286_1 := pB_ HB.out hx286_1
           replace hx286_2 := pB_ HB.out hx286_2
           replace hx286_3 := pB_ HB.out hx286_3
           replace hx286_4 := pB_ HB.out hx286_4
           replace hx286_5 := pB_ HB.out hx286_5
           replace hx286_6 := pB_ HB.out hx286_6
           replace p286 := eq_true p286
           replace q286 := eq_true q286
           go_wp2
           go_ret
           exact ⟨_, er_, by (with_reducible repeat (first | apply Kd.R_alloc | apply Kd.R_drewN | apply Kd.R_drew)); exact HO_5.out, Bn_ HB.out⟩
          rw [if_pos c24] at H
          have c24b0 := decide_eq_true c24
          clear c24
          by_cases c25 : 0 ≤ x6_2
          rotate_left
          ·
           rw [if_neg c25] at H
           exact absurd H (by simp)
          rw [if_pos c25] at H
          have c25b0 := decide_eq_true c25
          clear c25
          by_cases c26 : x6_2 < (l0.length : Int)
          rotate_left
          ·
           rw [if_neg c26] at H
           exact absurd H (by simp)
          rw [if_pos c26] at H
          have c26b0 := decide_eq_true c26
          clear c26
          by_cases c27 : ((rd_T55 l0 x6_2).f0) = 1
          rotate_left
          ·
           rw [if_neg c27] at H
           have c27b0 : (((rd_T55 l0 x6_2).f0) == 1) = false := beq_eq_false_iff_ne.mpr c27
           have c27b1 : (((rd_T55 l0 x6_2).f0) != 1) = true := bne_iff_ne.mpr c27
           have H' := Ad_.mk H
           clear H
           have p286 : 0 ≤ (a1 : Int) := od_
           have q286 : a1 < (l0.length : Int) := od_
           obtain ⟨ad286, e286, hx286_0, hx286_1, hx286_2, hx286_3, hx286_4, hx286_5, hx286_6⟩ := at_T55 HR0.out a1 p286 q286
           obtain rfl : ad284 = ad286 := (by injection e286)
           replace hx286_0 := pB_ HB.out hx286_0
           replace hx286_1 := pB_ HB.out hx286_1
           replace hx286_2 := pB_ HB.out hx286_2
           replace hx286_3 := pB_ HB.out hx286_3
           replace hx286_4 := pB_ HB.out hx286_4
           replace hx286_5 := pB_ HB.out hx286_5
           replace hx286_6 := pB_ HB.out hx286_6
           replace p286 := eq_true p286
           replace q286 := eq_true q286
           have p287 : 0 ≤ (x6_2 : Int) := od_
           have q287 : x6_2 < (l0.length : Int) := od_
           obtain ⟨ad287, e287, hx287_0, hx287_1, hx287_2, hx287_3, hx287_4, hx287_5, hx287_6⟩ := at_T55 HR0.out x6_2 p287 q287
           obtain rfl : ad284 = ad287 := (by injection e287)
           replace hx287_0 := pB_ HB.out hx287_0
           replace hx287_1 := pB_ HB.out hx287_1
           replace hx287_2 := pB_ HB.out hx287_2
           replace hx287_3 := pB_ HB.out hx287_3
           replace hx287_4 := pB_ HB.out hx287_4
           replace hx287_5 := pB_ HB.out hx287_5
           replace hx287_6 := pB_ HB.out hx287_6
           replace p287 := eq_true p287
           replace q287 := eq_true q287
           go_wp2
           go_roundg k2
           case measure => have := HJ2.out; have := HK2.out; omega
           case rel => exact ⟨(x5_2), (wrap64 (x6_2 + 1)), fs_, H', ⟨by have := HJ2.out; have := HK2.out; omega⟩, ⟨Ro_ HO_5.out⟩, ⟨Bn_ HB.out⟩⟩
          rw [if_pos c27] at H
          have c27b0 : (((rd_T55 l0 x6_2).f0) == 1) = true := beq_iff_eq.mpr c27
          have c27b1 : (((rd_T55 l0 x6_2).f0) != 1) = false := bne_eq_false_iff_eq.mpr c27
          clear c27
          replace H := Option.bind_eq_some_iff.mp H
          obtain ⟨⟨t288, t289⟩, A280, H⟩ := H
          try dsimp only at H
          have A28 := Ad_.mk A280
          clear A280
          have HC29 := Ad_.mk H
          clear H
          have p286 : 0 ≤ (a1 : Int) := od_
          have q286 : a1 < (l0.length : Int) := od_
          obtain ⟨ad286, e286, hx286_0, hx286_1, hx286_2, hx286_3, hx286_4, hx286_5, hx286_6⟩ := at_T55 HR0.out a1 p286 q286
          obtain rfl : ad284 = ad286 := (by injection e286)
          replace hx286_0 := pB_ HB.out hx286_0
          replace hx286_1 := pB_ HB.out hx286_1
          replace hx286_2 := pB_ HB.out hx286_2
          replace hx286_3 := pB_ HB.out hx286_3
          replace hx286_4 := pB_ HB.out hx286_4
          replace hx286_5 := pB_ HB.out hx286_5
          replace hx286_6 := pB_ HB.out hx286_6
          replace p286 := eq_true p286
          replace q286 := eq_true q286
          have p287 : 0 ≤ (x6_2 : Int) := od_
          have q287 : x6_2 < (l0.length : Int) := od_
          obtain ⟨ad287, e287, hx287_0, hx287_1, hx287_2, hx287_3, hx287_4, hx287_5, hx287_6⟩ := at_T55 HR0.out x6_2 p287 q287
          obtain rfl : ad284 = ad287 := (by injection e287)
          replace hx287_0 := pB_ HB.out hx287_0
          replace hx287_1 := pB_ HB.out hx287_1
          replace hx287_2 := pB_ HB.out hx287_2
          replace hx287_3 := pB_ HB.out hx287_3
          replace hx287_4 := pB_ HB.out hx287_4
          replace hx287_5 := pB_ HB.out hx287_5
          replace hx287_6 := pB_ HB.out hx287_6
          replace p287 := eq_true p287
          replace q287 := eq_true q287
          go_upto_region 9 with (first | ((with_reducible refine gC_ (f := 83) rfl ?_); refine gM_ (some 55) rfl rfl Tryd.func83 (by kernel_rfl) rfl #[.slice (some ad284) l0.length c0, .int .i64 x6_2] rfl ?_; (with_reducible refine (spec_BinderOf.calls k2 _ _ l0 x6_2 t288 t289 _ ?side1 ?side2 A28.out).mono ?_); (case side1 => exact Cb_ HR0.out HB.out); (case side2 => exact HC0.out); rintro e w30 ⟨rfl, hb⟩; refine ⟨_, rfl, ?_⟩; replace HO_5 := Ad_.mk (Rb_ HO_5.out hb); replace HB := Ad_.mk (bQ_ HB.out hb); (try clear hb)) | ((with_reducible refine gD_ (N := 7) rfl ?_); (try (refine gate_guard (by rfl) ?_; dsimp only)); refine bE_ ?hg (N := 7) ?hd (cs := #[.int .i64 0, .int .i64 0]) (t := 59) ?hr ?_; (case hd => rfl); (case hg => rfl); (case hr => first | (go_simp; done) | (go_simp; rfl)); intro gb290 hg w31 hbox hb; have n0_ := Ad_.mk (Kd.R_below (Kd.R_elderB (Ro_ HO_5.out) gb290 (Nat.le_of_eq hg.symm)) hb); have n1_ := Ad_.mk (bQ_ HB.out hb); have n2_ := Ad_.mk (hbox); have n3_ := Ad_.mk ((by rw [hg]; exact (bZ_ (Bn_ HB.out)) : w.heap.size ≤ gb290)); have n4_ := Ad_.mk ((by rw [hg]; exact (bZ_ (Bn_ HB.out)) : w.heap.size ≤ gb290)); clear HO_5; clear HB; have HO_5 := n0_; have HB := n1_; have BK290 := n2_; have GW290 := n3_; have GE290 := n4_; clear n0_ n1_ n2_ n3_ n4_; clear hb hbox hg; obtain ⟨hcz32_0, hcz32_1⟩ := cells2_ BK290.out; obtain ⟨hfz32_0, hfz32_1⟩ := froz2_ BK290.out))
          (try simp only [Act.put, List.setIfInBounds_toArray, List.set_cons_zero, List.set_cons_succ])
          go_cut [97] (fun v97 wc => ∃ (kq : Nat) (x97_28 : Bool), v97 = .bool x97_28 ∧ Ad_ (spec_OuterOf.j2 kq l0 a1 x5_2 x6_2 x97_28 t288 t289 = some r) ∧ Ad_ (kq ≤ k2) ∧ Ad_ (Kd.R k59 59 wc w.heap.size (fun k_ => k_ ≠ gb290) u5 x5_2) ∧ Ad_ (wc.heap[gb290]? = some (.cells #[.int .i64 t288, .int .i64 t289] 59 (0, 0))) ∧ Ad_ (Below w.heap.size w wc))
          case first =>
            have H := HC29.out
            clear HC29
            by_cases c33 : t288 < a1
            rotate_left
            ·
             rw [if_neg c33] at H
             have c33b0 := decide_eq_false c33
             clear c33
             (first | rw [c33b0] | (simp only [i64_w, i32_w]; rw [c33b0]) | skip)
             by_cases c63 : t288 < 0
             ·
              rw [if_pos c63] at H
              have c63b0 := decide_eq_true c63
              clear c63
              have H' := Ad_.mk H
              clear H
              try go_wp2
              have n0_ : Ad_ (Kd.R k59 59 ((w31.setCell ⟨gb290, 0, none⟩ (.int .i64 t288)).setCell ⟨gb290, 1, none⟩ (.int .i64 t289)) w.heap.size (fun k_ => k_ ≠ gb290) u5 x5_2) := ⟨by (with_reducible repeat (first | apply Kd.R_alloc | apply Kd.R_drewN | apply Kd.R_drew)); exact Kd.R_mono (Kd.R_far (p := ⟨gb290, 1, none⟩) (Kd.R_far (p := ⟨gb290, 0, none⟩) (Kd.R_mono HO_5.out (fun k_ hk => (⟨hk, hk.2⟩ : _ ∧ k_ ≠ gb290))) (fun _ hk => hk.2) (.int .i64 t288)) (fun _ hk => hk.2) (.int .i64 t289)) (fun _ hk => hk.1.2)⟩
              have n1_ : Ad_ (((w31.setCell ⟨gb290, 0, none⟩ (.int .i64 t288)).setCell ⟨gb290, 1, none⟩ (.int .i64 t289)).heap[gb290]? = some (.cells #[.int .i64 t288, .int .i64 t289] 59 (0, 0))) := ⟨by (with_reducible repeat (first | refine kN_ ?_ _ | refine k1_ ?_ | refine kA_ ?_ _)); refine blk_put (cs := #[.int .i64 t288, .int .i64 0]) ?_ 1 _ rfl; (with_reducible repeat (first | refine kN_ ?_ _ | refine k1_ ?_ | refine kA_ ?_ _)); refine blk_put (cs := #[.int .i64 0, .int .i64 0]) ?_ 0 _ rfl; (with_reducible repeat (first | refine kN_ ?_ _ | refine k1_ ?_ | refine kA_ ?_ _)); exact BK290.out⟩
              have n2_ : Ad_ (Below w.heap.size w ((w31.setCell ⟨gb290, 0, none⟩ (.int .i64 t288)).setCell ⟨gb290, 1, none⟩ (.int .i64 t289))) := ⟨Bo_ HB.out GE290.out⟩
              (try clear HO_5)
              (try clear BK290)
              (try clear HB)
              generalize ((w31.setCell ⟨gb290, 0, none⟩ (.int .i64 t288)).setCell ⟨gb290, 1, none⟩ (.int .i64 t289)) = w64 at n0_ n1_ n2_ ⊢
              have HO_5 := n0_
              have BK290 := n1_
              have HB := n2_
              clear n0_ n1_ n2_
              replace HO_5 := Ad_.mk (Kd.R_drew HO_5.out)
              replace BK290 := Ad_.mk (k1_ BK290.out)
              replace HB := Ad_.mk (b1_ HB.out)
              refine start_ (n := 42) (S := fun w' => w'.cell? ⟨gb290, 0, none⟩ = some (.int .i64 t288) ∧ w'.cell? ⟨gb290, 1, none⟩ = some (.int .i64 t289)) (ds := []) #[Z,Z,Z,Z,Z,Z,Z,Z,Z,Z,Z,Z,Z,Z,Z,Z,Z,Z,Z,Z,Z,Z,Z,Z,Z,Z,Z,Z,Z,Z,Z,Z,Z,Z,Z,Z,Z,Z,Z,Z,Z,Z] (by kernel_rfl) rfl rfl ⟨(kC_ BK290.out 0).trans rfl, (kC_ BK290.out 1).trans rfl⟩ (fun hHeld => ?_); refine with_tabW spec_OuterOf.tab9 spec_OuterOf.bits9 (fun HT_ HW_ => ?_)
              generalize w64.drew = w65 at HO_5 BK290 HB hHeld ⊢
              refine pu_ (i := 0) (N := some 56) #[Y,Z,Z,Z,Z,Z,Z,Z,Z,Z,Z,Z,Z,Z,Z,Z,Z,Z,Z,Z,Z,Z,Z,Z,Z,Z,Z,Z,Z,Z,Z,Z,Z,Z,Z,Z,Z,Z,Z,Z,Z,Z] ?_
              refine pu_ (i := 2) (N := some 58) #[Y,Z,Y,Z,Z,Z,Z,Z,Z,Z,Z,Z,Z,Z,Z,Z,Z,Z,Z,Z,Z,Z,Z,Z,Z,Z,Z,Z,Z,Z,Z,Z,Z,Z,Z,Z,Z,Z,Z,Z,Z,Z] ?_
              refine tk_ (i := 1) (N := some 57) (v := ?_) (a' := ?_) #[Y,Y,Y,Z,Z,Z,Z,Z,Z,Z,Z,Z,Z,Z,Z,Z,Z,Z,Z,Z,Z,Z,Z,Z,Z,Z,Z,Z,Z,Z,Z,Z,Z,Z,Z,Z,Z,Z,Z,Z,Z,Z] ?_ hHeld ?_ ?_
              rotate_left
              ·
               rintro w' ⟨s0, s1⟩
               go_simp
               with_reducible rfl
              rotate_left
              ·
               simp only [Act.put, List.setIfInBounds_toArray, List.set_cons_zero, List.set_cons_succ, i64_w, i32_w]
               rfl
              refine pu_ (i := 3) (N := some 59) #[Y,Y,Y,Y,Z,Z,Z,Z,Z,Z,Z,Z,Z,Z,Z,Z,Z,Z,Z,Z,Z,Z,Z,Z,Z,Z,Z,Z,Z,Z,Z,Z,Z,Z,Z,Z,Z,Z,Z,Z,Z,Z] ?_
              refine pu_ (i := 4) (N := some 60) #[Y,Y,Y,Y,Y,Z,Z,Z,Z,Z,Z,Z,Z,Z,Z,Z,Z,Z,Z,Z,Z,Z,Z,Z,Z,Z,Z,Z,Z,Z,Z,Z,Z,Z,Z,Z,Z,Z,Z,Z,Z,Z] ?_
              refine pv_ (i := 5) (N := some 61) #[Y,Y,Y,Y,Y,Y,Z,Z,Z,Z,Z,Z,Z,Z,Z,Z,Z,Z,Z,Z,Z,Z,Z,Z,Z,Z,Z,Z,Z,Z,Z,Z,Z,Z,Z,Z,Z,Z,Z,Z,Z,Z] ?_
              refine pv_ (i := 6) (N := some 62) #[Y,Y,Y,Y,Y,Y,Y,Z,Z,Z,Z,Z,Z,Z,Z,Z,Z,Z,Z,Z,Z,Z,Z,Z,Z,Z,Z,Z,Z,Z,Z,Z,Z,Z,Z,Z,Z,Z,Z,Z,Z,Z] ?_
              refine pv_ (i := 7) (N := some 63) #[Y,Y,Y,Y,Y,Y,Y,Y,Z,Z,Z,Z,Z,Z,Z,Z,Z,Z,Z,Z,Z,Z,Z,Z,Z,Z,Z,Z,Z,Z,Z,Z,Z,Z,Z,Z,Z,Z,Z,Z,Z,Z] ?_
              refine pu_ (i := 8) (N := some 64) #[Y,Y,Y,Y,Y,Y,Y,Y,Y,Z,Z,Z,Z,Z,Z,Z,Z,Z,Z,Z,Z,Z,Z,Z,Z,Z,Z,Z,Z,Z,Z,Z,Z,Z,Z,Z,Z,Z,Z,Z,Z,Z] ?_
              refine pu_ (i := 9) (N := some 65) #[Y,Y,Y,Y,Y,Y,Y,Y,Y,Y,Z,Z,Z,Z,Z,Z,Z,Z,Z,Z,Z,Z,Z,Z,Z,Z,Z,Z,Z,Z,Z,Z,Z,Z,Z,Z,Z,Z,Z,Z,Z,Z] ?_
              refine pv_ (i := 10) (N := some 66) #[Y,Y,Y,Y,Y,Y,Y,Y,Y,Y,Y,Z,Z,Z,Z,Z,Z,Z,Z,Z,Z,Z,Z,Z,Z,Z,Z,Z,Z,Z,Z,Z,Z,Z,Z,Z,Z,Z,Z,Z,Z,Z] ?_
              refine pv_ (i := 11) (N := some 67) #[Y,Y,Y,Y,Y,Y,Y,Y,Y,Y,Y,Y,Z,Z,Z,Z,Z,Z,Z,Z,Z,Z,Z,Z,Z,Z,Z,Z,Z,Z,Z,Z,Z,Z,Z,Z,Z,Z,Z,Z,Z,Z] ?_
              refine pv_ (i := 12) (N := some 68) #[Y,Y,Y,Y,Y,Y,Y,Y,Y,Y,Y,Y,Y,Z,Z,Z,Z,Z,Z,Z,Z,Z,Z,Z,Z,Z,Z,Z,Z,Z,Z,Z,Z,Z,Z,Z,Z,Z,Z,Z,Z,Z] ?_
              refine pv_ (i := 13) (N := some 69) #[Y,Y,Y,Y,Y,Y,Y,Y,Y,Y,Y,Y,Y,Y,Z,Z,Z,Z,Z,Z,Z,Z,Z,Z,Z,Z,Z,Z,Z,Z,Z,Z,Z,Z,Z,Z,Z,Z,Z,Z,Z,Z] ?_
              refine pv_ (i := 14) (N := some 70) #[Y,Y,Y,Y,Y,Y,Y,Y,Y,Y,Y,Y,Y,Y,Y,Z,Z,Z,Z,Z,Z,Z,Z,Z,Z,Z,Z,Z,Z,Z,Z,Z,Z,Z,Z,Z,Z,Z,Z,Z,Z,Z] ?_
              refine pv_ (i := 15) (N := some 71) #[Y,Y,Y,Y,Y,Y,Y,Y,Y,Y,Y,Y,Y,Y,Y,Y,Z,Z,Z,Z,Z,Z,Z,Z,Z,Z,Z,Z,Z,Z,Z,Z,Z,Z,Z,Z,Z,Z,Z,Z,Z,Z] ?_
              refine pv_ (i := 16) (N := some 72) #[Y,Y,Y,Y,Y,Y,Y,Y,Y,Y,Y,Y,Y,Y,Y,Y,Y,Z,Z,Z,Z,Z,Z,Z,Z,Z,Z,Z,Z,Z,Z,Z,Z,Z,Z,Z,Z,Z,Z,Z,Z,Z] ?_
              refine pv_ (i := 17) (N := some 73) #[Y,Y,Y,Y,Y,Y,Y,Y,Y,Y,Y,Y,Y,Y,Y,Y,Y,Y,Z,Z,Z,Z,Z,Z,Z,Z,Z,Z,Z,Z,Z,Z,Z,Z,Z,Z,Z,Z,Z,Z,Z,Z] ?_
              refine pv_ (i := 18) (N := some 74) #[Y,Y,Y,Y,Y,Y,Y,Y,Y,Y,Y,Y,Y,Y,Y,Y,Y,Y,Y,Z,Z,Z,Z,Z,Z,Z,Z,Z,Z,Z,Z,Z,Z,Z,Z,Z,Z,Z,Z,Z,Z,Z] ?_
              refine pv_ (i := 19) (N := some 75) #[Y,Y,Y,Y,Y,Y,Y,Y,Y,Y,Y,Y,Y,Y,Y,Y,Y,Y,Y,Y,Z,Z,Z,Z,Z,Z,Z,Z,Z,Z,Z,Z,Z,Z,Z,Z,Z,Z,Z,Z,Z,Z] ?_
              refine pu_ (i := 20) (N := some 76) #[Y,Y,Y,Y,Y,Y,Y,Y,Y,Y,Y,Y,Y,Y,Y,Y,Y,Y,Y,Y,Y,Z,Z,Z,Z,Z,Z,Z,Z,Z,Z,Z,Z,Z,Z,Z,Z,Z,Z,Z,Z,Z] ?_
              refine pu_ (i := 21) (N := some 77) #[Y,Y,Y,Y,Y,Y,Y,Y,Y,Y,Y,Y,Y,Y,Y,Y,Y,Y,Y,Y,Y,Y,Z,Z,Z,Z,Z,Z,Z,Z,Z,Z,Z,Z,Z,Z,Z,Z,Z,Z,Z,Z] ?_
              refine pu_ (i := 22) (N := some 78) #[Y,Y,Y,Y,Y,Y,Y,Y,Y,Y,Y,Y,Y,Y,Y,Y,Y,Y,Y,Y,Y,Y,Y,Z,Z,Z,Z,Z,Z,Z,Z,Z,Z,Z,Z,Z,Z,Z,Z,Z,Z,Z] ?_
              refine tk_ (i := 23) (N := some 79) (v := ?_) (a' := ?_) #[Y,Y,Y,Y,Y,Y,Y,Y,Y,Y,Y,Y,Y,Y,Y,Y,Y,Y,Y,Y,Y,Y,Y,Y,Z,Z,Z,Z,Z,Z,Z,Z,Z,Z,Z,Z,Z,Z,Z,Z,Z,Z] ?_ hHeld ?_ ?_
              rotate_left
              ·
               rintro w' ⟨s0, s1⟩
               go_simp
               with_reducible rfl
              rotate_left
              ·
               simp only [Act.put, List.setIfInBounds_toArray, List.set_cons_zero, List.set_cons_succ, i64_w, i32_w]
               rfl
              refine pu_ (i := 24) (N := some 80) #[Y,Y,Y,Y,Y,Y,Y,Y,Y,Y,Y,Y,Y,Y,Y,Y,Y,Y,Y,Y,Y,Y,Y,Y,Y,Z,Z,Z,Z,Z,Z,Z,Z,Z,Z,Z,Z,Z,Z,Z,Z,Z] ?_
              refine pu_ (i := 25) (N := some 81) #[Y,Y,Y,Y,Y,Y,Y,Y,Y,Y,Y,Y,Y,Y,Y,Y,Y,Y,Y,Y,Y,Y,Y,Y,Y,Y,Z,Z,Z,Z,Z,Z,Z,Z,Z,Z,Z,Z,Z,Z,Z,Z] ?_
              refine pu_ (i := 26) (N := some 82) #[Y,Y,Y,Y,Y,Y,Y,Y,Y,Y,Y,Y,Y,Y,Y,Y,Y,Y,Y,Y,Y,Y,Y,Y,Y,Y,Y,Z,Z,Z,Z,Z,Z,Z,Z,Z,Z,Z,Z,Z,Z,Z] ?_
              refine pv_ (i := 27) (N := some 83) #[Y,Y,Y,Y,Y,Y,Y,Y,Y,Y,Y,Y,Y,Y,Y,Y,Y,Y,Y,Y,Y,Y,Y,Y,Y,Y,Y,Y,Z,Z,Z,Z,Z,Z,Z,Z,Z,Z,Z,Z,Z,Z] ?_
              refine pv_ (i := 28) (N := some 84) #[Y,Y,Y,Y,Y,Y,Y,Y,Y,Y,Y,Y,Y,Y,Y,Y,Y,Y,Y,Y,Y,Y,Y,Y,Y,Y,Y,Y,Y,Z,Z,Z,Z,Z,Z,Z,Z,Z,Z,Z,Z,Z] ?_
              refine pv_ (i := 29) (N := some 85) #[Y,Y,Y,Y,Y,Y,Y,Y,Y,Y,Y,Y,Y,Y,Y,Y,Y,Y,Y,Y,Y,Y,Y,Y,Y,Y,Y,Y,Y,Y,Z,Z,Z,Z,Z,Z,Z,Z,Z,Z,Z,Z] ?_
              refine pv_ (i := 30) (N := some 86) #[Y,Y,Y,Y,Y,Y,Y,Y,Y,Y,Y,Y,Y,Y,Y,Y,Y,Y,Y,Y,Y,Y,Y,Y,Y,Y,Y,Y,Y,Y,Y,Z,Z,Z,Z,Z,Z,Z,Z,Z,Z,Z] ?_
              refine pv_ (i := 31) (N := some 87) #[Y,Y,Y,Y,Y,Y,Y,Y,Y,Y,Y,Y,Y,Y,Y,Y,Y,Y,Y,Y,Y,Y,Y,Y,Y,Y,Y,Y,Y,Y,Y,Y,Z,Z,Z,Z,Z,Z,Z,Z,Z,Z] ?_
              refine pv_ (i := 32) (N := some 88) #[Y,Y,Y,Y,Y,Y,Y,Y,Y,Y,Y,Y,Y,Y,Y,Y,Y,Y,Y,Y,Y,Y,Y,Y,Y,Y,Y,Y,Y,Y,Y,Y,Y,Z,Z,Z,Z,Z,Z,Z,Z,Z] ?_
              refine pv_ (i := 33) (N := some 89) #[Y,Y,Y,Y,Y,Y,Y,Y,Y,Y,Y,Y,Y,Y,Y,Y,Y,Y,Y,Y,Y,Y,Y,Y,Y,Y,Y,Y,Y,Y,Y,Y,Y,Y,Z,Z,Z,Z,Z,Z,Z,Z] ?_
              refine pv_ (i := 34) (N := some 90) #[Y,Y,Y,Y,Y,Y,Y,Y,Y,Y,Y,Y,Y,Y,Y,Y,Y,Y,Y,Y,Y,Y,Y,Y,Y,Y,Y,Y,Y,Y,Y,Y,Y,Y,Y,Z,Z,Z,Z,Z,Z,Z] ?_
              refine pv_ (i := 35) (N := some 91) #[Y,Y,Y,Y,Y,Y,Y,Y,Y,Y,Y,Y,Y,Y,Y,Y,Y,Y,Y,Y,Y,Y,Y,Y,Y,Y,Y,Y,Y,Y,Y,Y,Y,Y,Y,Y,Z,Z,Z,Z,Z,Z] ?_
              refine pv_ (i := 36) (N := some 92) #[Y,Y,Y,Y,Y,Y,Y,Y,Y,Y,Y,Y,Y,Y,Y,Y,Y,Y,Y,Y,Y,Y,Y,Y,Y,Y,Y,Y,Y,Y,Y,Y,Y,Y,Y,Y,Y,Z,Z,Z,Z,Z] ?_
              refine pv_ (i := 37) (N := some 93) #[Y,Y,Y,Y,Y,Y,Y,Y,Y,Y,Y,Y,Y,Y,Y,Y,Y,Y,Y,Y,Y,Y,Y,Y,Y,Y,Y,Y,Y,Y,Y,Y,Y,Y,Y,Y,Y,Y,Z,Z,Z,Z] ?_
              refine pv_ (i := 38) (N := some 94) #[Y,Y,Y,Y,Y,Y,Y,Y,Y,Y,Y,Y,Y,Y,Y,Y,Y,Y,Y,Y,Y,Y,Y,Y,Y,Y,Y,Y,Y,Y,Y,Y,Y,Y,Y,Y,Y,Y,Y,Z,Z,Z] ?_
              refine pv_ (i := 39) (N := some 95) #[Y,Y,Y,Y,Y,Y,Y,Y,Y,Y,Y,Y,Y,Y,Y,Y,Y,Y,Y,Y,Y,Y,Y,Y,Y,Y,Y,Y,Y,Y,Y,Y,Y,Y,Y,Y,Y,Y,Y,Y,Z,Z] ?_
              refine pv_ (i := 40) (N := some 96) #[Y,Y,Y,Y,Y,Y,Y,Y,Y,Y,Y,Y,Y,Y,Y,Y,Y,Y,Y,Y,Y,Y,Y,Y,Y,Y,Y,Y,Y,Y,Y,Y,Y,Y,Y,Y,Y,Y,Y,Y,Y,Z] ?_
              refine pu_ (i := 41) (N := some 97) #[Y,Y,Y,Y,Y,Y,Y,Y,Y,Y,Y,Y,Y,Y,Y,Y,Y,Y,Y,Y,Y,Y,Y,Y,Y,Y,Y,Y,Y,Y,Y,Y,Y,Y,Y,Y,Y,Y,Y,Y,Y,Y] ?_
              refine done_ (done_of HT_.out (by kernel_rfl)) ?_
              try go_wp2
              go_meet
              case rel => exact ⟨_, (true), fs_, H', ⟨by have := HJ2.out; have := HK2.out; first | omega | exact Nat.le_refl _⟩, ⟨Ro_ HO_5.out⟩, ⟨Ko_ BK290.out⟩, ⟨Bo_ HB.out GE290.out⟩⟩
             rw [if_neg c63] at H
             have c63b0 := decide_eq_false c63
             clear c63
             by_cases c66 : t288 = a1
             rotate_left
             ·
              rw [if_neg c66] at H
              have c66b0 : (t288 == a1) = false := beq_eq_false_iff_ne.mpr c66
              have c66b1 : (t288 != a1) = true := bne_iff_ne.mpr c66
              have H' := Ad_.mk H
              clear H
              try go_wp2
              have n0_ : Ad_ (Kd.R k59 59 ((w31.setCell ⟨gb290, 0, none⟩ (.int .i64 t288)).setCell ⟨gb290, 1, none⟩ (.int .i64 t289)) w.heap.size (fun k_ => k_ ≠ gb290) u5 x5_2) := ⟨by (with_reducible repeat (first | apply Kd.R_alloc | apply Kd.R_drewN | apply Kd.R_drew)); exact Kd.R_mono (Kd.R_far (p := ⟨gb290, 1, none⟩) (Kd.R_far (p := ⟨gb290, 0, none⟩) (Kd.R_mono HO_5.out (fun k_ hk => (⟨hk, hk.2⟩ : _ ∧ k_ ≠ gb290))) (fun _ hk => hk.2) (.int .i64 t288)) (fun _ hk => hk.2) (.int .i64 t289)) (fun _ hk => hk.1.2)⟩
              have n1_ : Ad_ (((w31.setCell ⟨gb290, 0, none⟩ (.int .i64 t288)).setCell ⟨gb290, 1, none⟩ (.int .i64 t289)).heap[gb290]? = some (.cells #[.int .i64 t288, .int .i64 t289] 59 (0, 0))) := ⟨by (with_reducible repeat (first | refine kN_ ?_ _ | refine k1_ ?_ | refine kA_ ?_ _)); refine blk_put (cs := #[.int .i64 t288, .int .i64 0]) ?_ 1 _ rfl; (with_reducible repeat (first | refine kN_ ?_ _ | refine k1_ ?_ | refine kA_ ?_ _)); refine blk_put (cs := #[.int .i64 0, .int .i64 0]) ?_ 0 _ rfl; (with_reducible repeat (first | refine kN_ ?_ _ | refine k1_ ?_ | refine kA_ ?_ _)); exact BK290.out⟩
              have n2_ : Ad_ (Below w.heap.size w ((w31.setCell ⟨gb290, 0, none⟩ (.int .i64 t288)).setCell ⟨gb290, 1, none⟩ (.int .i64 t289))) := ⟨Bo_ HB.out GE290.out⟩
              (try clear HO_5)
              (try clear BK290)
              (try clear HB)
              generalize ((w31.setCell ⟨gb290, 0, none⟩ (.int .i64 t288)).setCell ⟨gb290, 1, none⟩ (.int .i64 t289)) = w71 at n0_ n1_ n2_ ⊢
              have HO_5 := n0_
              have BK290 := n1_
              have HB := n2_
              clear n0_ n1_ n2_
              replace HO_5 := Ad_.mk (Kd.R_drew HO_5.out)
              replace BK290 := Ad_.mk (k1_ BK290.out)
              replace HB := Ad_.mk (b1_ HB.out)
              refine start_ (n := 42) (S := fun w' => w'.cell? ⟨gb290, 0, none⟩ = some (.int .i64 t288) ∧ w'.cell? ⟨gb290, 1, none⟩ = some (.int .i64 t289)) (ds := []) #[Z,Z,Z,Z,Z,Z,Z,Z,Z,Z,Z,Z,Z,Z,Z,Z,Z,Z,Z,Z,Z,Z,Z,Z,Z,Z,Z,Z,Z,Z,Z,Z,Z,Z,Z,Z,Z,Z,Z,Z,Z,Z] (by kernel_rfl) rfl rfl ⟨(kC_ BK290.out 0).trans rfl, (kC_ BK290.out 1).trans rfl⟩ (fun hHeld => ?_); refine with_tabW spec_OuterOf.tab9 spec_OuterOf.bits9 (fun HT_ HW_ => ?_)
              generalize w71.drew = w72 at HO_5 BK290 HB hHeld ⊢
              refine pu_ (i := 0) (N := some 56) #[Y,Z,Z,Z,Z,Z,Z,Z,Z,Z,Z,Z,Z,Z,Z,Z,Z,Z,Z,Z,Z,Z,Z,Z,Z,Z,Z,Z,Z,Z,Z,Z,Z,Z,Z,Z,Z,Z,Z,Z,Z,Z] ?_
              refine pu_ (i := 2) (N := some 58) #[Y,Z,Y,Z,Z,Z,Z,Z,Z,Z,Z,Z,Z,Z,Z,Z,Z,Z,Z,Z,Z,Z,Z,Z,Z,Z,Z,Z,Z,Z,Z,Z,Z,Z,Z,Z,Z,Z,Z,Z,Z,Z] ?_
              refine tk_ (i := 1) (N := some 57) (v := ?_) (a' := ?_) #[Y,Y,Y,Z,Z,Z,Z,Z,Z,Z,Z,Z,Z,Z,Z,Z,Z,Z,Z,Z,Z,Z,Z,Z,Z,Z,Z,Z,Z,Z,Z,Z,Z,Z,Z,Z,Z,Z,Z,Z,Z,Z] ?_ hHeld ?_ ?_
              rotate_left
              ·
               rintro w' ⟨s0, s1⟩
               go_simp
               with_reducible rfl
              rotate_left
              ·
               simp only [Act.put, List.setIfInBounds_toArray, List.set_cons_zero, List.set_cons_succ, i64_w, i32_w]
               rfl
              refine pu_ (i := 3) (N := some 59) #[Y,Y,Y,Y,Z,Z,Z,Z,Z,Z,Z,Z,Z,Z,Z,Z,Z,Z,Z,Z,Z,Z,Z,Z,Z,Z,Z,Z,Z,Z,Z,Z,Z,Z,Z,Z,Z,Z,Z,Z,Z,Z] ?_
              refine pu_ (i := 4) (N := some 60) #[Y,Y,Y,Y,Y,Z,Z,Z,Z,Z,Z,Z,Z,Z,Z,Z,Z,Z,Z,Z,Z,Z,Z,Z,Z,Z,Z,Z,Z,Z,Z,Z,Z,Z,Z,Z,Z,Z,Z,Z,Z,Z] ?_
              refine pv_ (i := 5) (N := some 61) #[Y,Y,Y,Y,Y,Y,Z,Z,Z,Z,Z,Z,Z,Z,Z,Z,Z,Z,Z,Z,Z,Z,Z,Z,Z,Z,Z,Z,Z,Z,Z,Z,Z,Z,Z,Z,Z,Z,Z,Z,Z,Z] ?_
              refine pv_ (i := 6) (N := some 62) #[Y,Y,Y,Y,Y,Y,Y,Z,Z,Z,Z,Z,Z,Z,Z,Z,Z,Z,Z,Z,Z,Z,Z,Z,Z,Z,Z,Z,Z,Z,Z,Z,Z,Z,Z,Z,Z,Z,Z,Z,Z,Z] ?_
              refine pv_ (i := 7) (N := some 63) #[Y,Y,Y,Y,Y,Y,Y,Y,Z,Z,Z,Z,Z,Z,Z,Z,Z,Z,Z,Z,Z,Z,Z,Z,Z,Z,Z,Z,Z,Z,Z,Z,Z,Z,Z,Z,Z,Z,Z,Z,Z,Z] ?_
              refine pu_ (i := 8) (N := some 64) #[Y,Y,Y,Y,Y,Y,Y,Y,Y,Z,Z,Z,Z,Z,Z,Z,Z,Z,Z,Z,Z,Z,Z,Z,Z,Z,Z,Z,Z,Z,Z,Z,Z,Z,Z,Z,Z,Z,Z,Z,Z,Z] ?_
              refine pu_ (i := 9) (N := some 65) #[Y,Y,Y,Y,Y,Y,Y,Y,Y,Y,Z,Z,Z,Z,Z,Z,Z,Z,Z,Z,Z,Z,Z,Z,Z,Z,Z,Z,Z,Z,Z,Z,Z,Z,Z,Z,Z,Z,Z,Z,Z,Z] ?_
              refine pv_ (i := 10) (N := some 66) #[Y,Y,Y,Y,Y,Y,Y,Y,Y,Y,Y,Z,Z,Z,Z,Z,Z,Z,Z,Z,Z,Z,Z,Z,Z,Z,Z,Z,Z,Z,Z,Z,Z,Z,Z,Z,Z,Z,Z,Z,Z,Z] ?_
              refine pv_ (i := 11) (N := some 67) #[Y,Y,Y,Y,Y,Y,Y,Y,Y,Y,Y,Y,Z,Z,Z,Z,Z,Z,Z,Z,Z,Z,Z,Z,Z,Z,Z,Z,Z,Z,Z,Z,Z,Z,Z,Z,Z,Z,Z,Z,Z,Z] ?_
              refine pv_ (i := 12) (N := some 68) #[Y,Y,Y,Y,Y,Y,Y,Y,Y,Y,Y,Y,Y,Z,Z,Z,Z,Z,Z,Z,Z,Z,Z,Z,Z,Z,Z,Z,Z,Z,Z,Z,Z,Z,Z,Z,Z,Z,Z,Z,Z,Z] ?_
              refine pv_ (i := 13) (N := some 69) #[Y,Y,Y,Y,Y,Y,Y,Y,Y,Y,Y,Y,Y,Y,Z,Z,Z,Z,Z,Z,Z,Z,Z,Z,Z,Z,Z,Z,Z,Z,Z,Z,Z,Z,Z,Z,Z,Z,Z,Z,Z,Z] ?_
              refine pv_ (i := 14) (N := some 70) #[Y,Y,Y,Y,Y,Y,Y,Y,Y,Y,Y,Y,Y,Y,Y,Z,Z,Z,Z,Z,Z,Z,Z,Z,Z,Z,Z,Z,Z,Z,Z,Z,Z,Z,Z,Z,Z,Z,Z,Z,Z,Z] ?_
              refine pv_ (i := 15) (N := some 71) #[Y,Y,Y,Y,Y,Y,Y,Y,Y,Y,Y,Y,Y,Y,Y,Y,Z,Z,Z,Z,Z,Z,Z,Z,Z,Z,Z,Z,Z,Z,Z,Z,Z,Z,Z,Z,Z,Z,Z,Z,Z,Z] ?_
              refine pv_ (i := 16) (N := some 72) #[Y,Y,Y,Y,Y,Y,Y,Y,Y,Y,Y,Y,Y,Y,Y,Y,Y,Z,Z,Z,Z,Z,Z,Z,Z,Z,Z,Z,Z,Z,Z,Z,Z,Z,Z,Z,Z,Z,Z,Z,Z,Z] ?_
              refine pv_ (i := 17) (N := some 73) #[Y,Y,Y,Y,Y,Y,Y,Y,Y,Y,Y,Y,Y,Y,Y,Y,Y,Y,Z,Z,Z,Z,Z,Z,Z,Z,Z,Z,Z,Z,Z,Z,Z,Z,Z,Z,Z,Z,Z,Z,Z,Z] ?_
              refine pv_ (i := 18) (N := some 74) #[Y,Y,Y,Y,Y,Y,Y,Y,Y,Y,Y,Y,Y,Y,Y,Y,Y,Y,Y,Z,Z,Z,Z,Z,Z,Z,Z,Z,Z,Z,Z,Z,Z,Z,Z,Z,Z,Z,Z,Z,Z,Z] ?_
              refine pv_ (i := 19) (N := some 75) #[Y,Y,Y,Y,Y,Y,Y,Y,Y,Y,Y,Y,Y,Y,Y,Y,Y,Y,Y,Y,Z,Z,Z,Z,Z,Z,Z,Z,Z,Z,Z,Z,Z,Z,Z,Z,Z,Z,Z,Z,Z,Z] ?_
              refine pu_ (i := 20) (N := some 76) #[Y,Y,Y,Y,Y,Y,Y,Y,Y,Y,Y,Y,Y,Y,Y,Y,Y,Y,Y,Y,Y,Z,Z,Z,Z,Z,Z,Z,Z,Z,Z,Z,Z,Z,Z,Z,Z,Z,Z,Z,Z,Z] ?_
              refine pu_ (i := 21) (N := some 77) #[Y,Y,Y,Y,Y,Y,Y,Y,Y,Y,Y,Y,Y,Y,Y,Y,Y,Y,Y,Y,Y,Y,Z,Z,Z,Z,Z,Z,Z,Z,Z,Z,Z,Z,Z,Z,Z,Z,Z,Z,Z,Z] ?_
              refine pu_ (i := 22) (N := some 78) #[Y,Y,Y,Y,Y,Y,Y,Y,Y,Y,Y,Y,Y,Y,Y,Y,Y,Y,Y,Y,Y,Y,Y,Z,Z,Z,Z,Z,Z,Z,Z,Z,Z,Z,Z,Z,Z,Z,Z,Z,Z,Z] ?_
              refine tk_ (i := 23) (N := some 79) (v := ?_) (a' := ?_) #[Y,Y,Y,Y,Y,Y,Y,Y,Y,Y,Y,Y,Y,Y,Y,Y,Y,Y,Y,Y,Y,Y,Y,Y,Z,Z,Z,Z,Z,Z,Z,Z,Z,Z,Z,Z,Z,Z,Z,Z,Z,Z] ?_ hHeld ?_ ?_
              rotate_left
              ·
               rintro w' ⟨s0, s1⟩
               go_simp
               with_reducible rfl
              rotate_left
              ·
               simp only [Act.put, List.setIfInBounds_toArray, List.set_cons_zero, List.set_cons_succ, i64_w, i32_w]
               rfl
              refine pu_ (i := 24) (N := some 80) #[Y,Y,Y,Y,Y,Y,Y,Y,Y,Y,Y,Y,Y,Y,Y,Y,Y,Y,Y,Y,Y,Y,Y,Y,Y,Z,Z,Z,Z,Z,Z,Z,Z,Z,Z,Z,Z,Z,Z,Z,Z,Z] ?_
              refine pu_ (i := 25) (N := some 81) #[Y,Y,Y,Y,Y,Y,Y,Y,Y,Y,Y,Y,Y,Y,Y,Y,Y,Y,Y,Y,Y,Y,Y,Y,Y,Y,Z,Z,Z,Z,Z,Z,Z,Z,Z,Z,Z,Z,Z,Z,Z,Z] ?_
              refine pu_ (i := 26) (N := some 82) #[Y,Y,Y,Y,Y,Y,Y,Y,Y,Y,Y,Y,Y,Y,Y,Y,Y,Y,Y,Y,Y,Y,Y,Y,Y,Y,Y,Z,Z,Z,Z,Z,Z,Z,Z,Z,Z,Z,Z,Z,Z,Z] ?_
              refine pu_ (i := 27) (N := some 83) #[Y,Y,Y,Y,Y,Y,Y,Y,Y,Y,Y,Y,Y,Y,Y,Y,Y,Y,Y,Y,Y,Y,Y,Y,Y,Y,Y,Y,Z,Z,Z,Z,Z,Z,Z,Z,Z,Z,Z,Z,Z,Z] ?_
              refine pu_ (i := 29) (N := some 85) #[Y,Y,Y,Y,Y,Y,Y,Y,Y,Y,Y,Y,Y,Y,Y,Y,Y,Y,Y,Y,Y,Y,Y,Y,Y,Y,Y,Y,Z,Y,Z,Z,Z,Z,Z,Z,Z,Z,Z,Z,Z,Z] ?_
              refine tk_ (i := 28) (N := some 84) (v := ?_) (a' := ?_) #[Y,Y,Y,Y,Y,Y,Y,Y,Y,Y,Y,Y,Y,Y,Y,Y,Y,Y,Y,Y,Y,Y,Y,Y,Y,Y,Y,Y,Y,Y,Z,Z,Z,Z,Z,Z,Z,Z,Z,Z,Z,Z] ?_ hHeld ?_ ?_
              rotate_left
              ·
               rintro w' ⟨s0, s1⟩
               go_simp
               with_reducible rfl
              rotate_left
              ·
               simp only [Act.put, List.setIfInBounds_toArray, List.set_cons_zero, List.set_cons_succ, i64_w, i32_w]
               rfl
              refine pu_ (i := 30) (N := some 86) #[Y,Y,Y,Y,Y,Y,Y,Y,Y,Y,Y,Y,Y,Y,Y,Y,Y,Y,Y,Y,Y,Y,Y,Y,Y,Y,Y,Y,Y,Y,Y,Z,Z,Z,Z,Z,Z,Z,Z,Z,Z,Z] ?_
              refine pu_ (i := 31) (N := some 87) #[Y,Y,Y,Y,Y,Y,Y,Y,Y,Y,Y,Y,Y,Y,Y,Y,Y,Y,Y,Y,Y,Y,Y,Y,Y,Y,Y,Y,Y,Y,Y,Y,Z,Z,Z,Z,Z,Z,Z,Z,Z,Z] ?_
              refine pv_ (i := 32) (N := some 88) #[Y,Y,Y,Y,Y,Y,Y,Y,Y,Y,Y,Y,Y,Y,Y,Y,Y,Y,Y,Y,Y,Y,Y,Y,Y,Y,Y,Y,Y,Y,Y,Y,Y,Z,Z,Z,Z,Z,Z,Z,Z,Z] ?_
              refine pv_ (i := 33) (N := some 89) #[Y,Y,Y,Y,Y,Y,Y,Y,Y,Y,Y,Y,Y,Y,Y,Y,Y,Y,Y,Y,Y,Y,Y,Y,Y,Y,Y,Y,Y,Y,Y,Y,Y,Y,Z,Z,Z,Z,Z,Z,Z,Z] ?_
              refine pv_ (i := 34) (N := some 90) #[Y,Y,Y,Y,Y,Y,Y,Y,Y,Y,Y,Y,Y,Y,Y,Y,Y,Y,Y,Y,Y,Y,Y,Y,Y,Y,Y,Y,Y,Y,Y,Y,Y,Y,Y,Z,Z,Z,Z,Z,Z,Z] ?_
              refine pv_ (i := 35) (N := some 91) #[Y,Y,Y,Y,Y,Y,Y,Y,Y,Y,Y,Y,Y,Y,Y,Y,Y,Y,Y,Y,Y,Y,Y,Y,Y,Y,Y,Y,Y,Y,Y,Y,Y,Y,Y,Y,Z,Z,Z,Z,Z,Z] ?_
              refine pv_ (i := 36) (N := some 92) #[Y,Y,Y,Y,Y,Y,Y,Y,Y,Y,Y,Y,Y,Y,Y,Y,Y,Y,Y,Y,Y,Y,Y,Y,Y,Y,Y,Y,Y,Y,Y,Y,Y,Y,Y,Y,Y,Z,Z,Z,Z,Z] ?_
              refine pv_ (i := 37) (N := some 93) #[Y,Y,Y,Y,Y,Y,Y,Y,Y,Y,Y,Y,Y,Y,Y,Y,Y,Y,Y,Y,Y,Y,Y,Y,Y,Y,Y,Y,Y,Y,Y,Y,Y,Y,Y,Y,Y,Y,Z,Z,Z,Z] ?_
              refine pv_ (i := 38) (N := some 94) #[Y,Y,Y,Y,Y,Y,Y,Y,Y,Y,Y,Y,Y,Y,Y,Y,Y,Y,Y,Y,Y,Y,Y,Y,Y,Y,Y,Y,Y,Y,Y,Y,Y,Y,Y,Y,Y,Y,Y,Z,Z,Z] ?_
              refine pv_ (i := 39) (N := some 95) #[Y,Y,Y,Y,Y,Y,Y,Y,Y,Y,Y,Y,Y,Y,Y,Y,Y,Y,Y,Y,Y,Y,Y,Y,Y,Y,Y,Y,Y,Y,Y,Y,Y,Y,Y,Y,Y,Y,Y,Y,Z,Z] ?_
              refine pu_ (i := 40) (N := some 96) #[Y,Y,Y,Y,Y,Y,Y,Y,Y,Y,Y,Y,Y,Y,Y,Y,Y,Y,Y,Y,Y,Y,Y,Y,Y,Y,Y,Y,Y,Y,Y,Y,Y,Y,Y,Y,Y,Y,Y,Y,Y,Z] ?_
              refine pu_ (i := 41) (N := some 97) #[Y,Y,Y,Y,Y,Y,Y,Y,Y,Y,Y,Y,Y,Y,Y,Y,Y,Y,Y,Y,Y,Y,Y,Y,Y,Y,Y,Y,Y,Y,Y,Y,Y,Y,Y,Y,Y,Y,Y,Y,Y,Y] ?_
              refine done_ (done_of HT_.out (by kernel_rfl)) ?_
              try go_wp2
              go_meet
              case rel => exact ⟨_, (false), fs_, H', ⟨by have := HJ2.out; have := HK2.out; first | omega | exact Nat.le_refl _⟩, ⟨Ro_ HO_5.out⟩, ⟨Ko_ BK290.out⟩, ⟨Bo_ HB.out GE290.out⟩⟩
             rw [if_pos c66] at H
             have c66b0 : (t288 == a1) = true := beq_iff_eq.mpr c66
             have c66b1 : (t288 != a1) = false := bne_eq_false_iff_eq.mpr c66
             clear c66
             replace H := Option.bind_eq_some_iff.mp H
             obtain ⟨t298, A670, H⟩ := H
             try dsimp only at H
             have A67 := Ad_.mk A670
             clear A670
             have H' := Ad_.mk H
             clear H
             try go_wp2
             have n0_ : Ad_ (Kd.R k59 59 ((w31.setCell ⟨gb290, 0, none⟩ (.int .i64 t288)).setCell ⟨gb290, 1, none⟩ (.int .i64 t289)) w.heap.size (fun k_ => k_ ≠ gb290) u5 x5_2) := ⟨by (with_reducible repeat (first | apply Kd.R_alloc | apply Kd.R_drewN | apply Kd.R_drew)); exact Kd.R_mono (Kd.R_far (p := ⟨gb290, 1, none⟩) (Kd.R_far (p := ⟨gb290, 0, none⟩) (Kd.R_mono HO_5.out (fun k_ hk => (⟨hk, hk.2⟩ : _ ∧ k_ ≠ gb290))) (fun _ hk => hk.2) (.int .i64 t288)) (fun _ hk => hk.2) (.int .i64 t289)) (fun _ hk => hk.1.2)⟩
             have n1_ : Ad_ (((w31.setCell ⟨gb290, 0, none⟩ (.int .i64 t288)).setCell ⟨gb290, 1, none⟩ (.int .i64 t289)).heap[gb290]? = some (.cells #[.int .i64 t288, .int .i64 t289] 59 (0, 0))) := ⟨by (with_reducible repeat (first | refine kN_ ?_ _ | refine k1_ ?_ | refine kA_ ?_ _)); refine blk_put (cs := #[.int .i64 t288, .int .i64 0]) ?_ 1 _ rfl; (with_reducible repeat (first | refine kN_ ?_ _ | refine k1_ ?_ | refine kA_ ?_ _)); refine blk_put (cs := #[.int .i64 0, .int .i64 0]) ?_ 0 _ rfl; (with_reducible repeat (first | refine kN_ ?_ _ | refine k1_ ?_ | refine kA_ ?_ _)); exact BK290.out⟩
             have n2_ : Ad_ (Below w.heap.size w ((w31.setCell ⟨gb290, 0, none⟩ (.int .i64 t288)).setCell ⟨gb290, 1, none⟩ (.int .i64 t289))) := ⟨Bo_ HB.out GE290.out⟩
             (try clear HO_5)
             (try clear BK290)
             (try clear HB)
             generalize ((w31.setCell ⟨gb290, 0, none⟩ (.int .i64 t288)).setCell ⟨gb290, 1, none⟩ (.int .i64 t289)) = w68 at n0_ n1_ n2_ ⊢
             have HO_5 := n0_
             have BK290 := n1_
             have HB := n2_
             clear n0_ n1_ n2_
             replace HO_5 := Ad_.mk (Kd.R_drew HO_5.out)
             replace BK290 := Ad_.mk (k1_ BK290.out)
             replace HB := Ad_.mk (b1_ HB.out)
             have p297 : 0 ≤ (a1 : Int) := od_
             have q297 : a1 < (l0.length : Int) := od_
             obtain ⟨ad297, e297, hx297_0, hx297_1, hx297_2, hx297_3, hx297_4, hx297_5, hx297_6⟩ := at_T55 HR0.out a1 p297 q297
             have hw297_6 := hx297_6
             have hw297_5 := hx297_5
             have hw297_4 := hx297_4
             have hw297_3 := hx297_3
             have hw297_2 := hx297_2
             have hw297_1 := hx297_1
             have hw297_0 := hx297_0
             obtain rfl : ad284 = ad297 := (by injection e297)
             replace hx297_0 := pB_ HB.out hx297_0
             replace hx297_1 := pB_ HB.out hx297_1
             replace hx297_2 := pB_ HB.out hx297_2
             replace hx297_3 := pB_ HB.out hx297_3
             replace hx297_4 := pB_ HB.out hx297_4
             replace hx297_5 := pB_ HB.out hx297_5
             replace hx297_6 := pB_ HB.out hx297_6
             replace p297 := eq_true p297
             replace q297 := eq_true q297
             refine start_ (n := 42) (S := fun w' => w'.cell? ⟨gb290, 0, none⟩ = some (.int .i64 t288) ∧ w'.cell? ⟨gb290, 1, none⟩ = some (.int .i64 t289) ∧ w'.cell? (ad284.add ((a1).toNat * 7)) = some (.int .i64 ((rd_T55 l0 a1).f0)) ∧ w'.cell? ⟨(ad284.add ((a1).toNat * 7)).block, (ad284.add ((a1).toNat * 7)).off + 1, none⟩ = some (.int .i64 ((rd_T55 l0 a1).f1)) ∧ w'.cell? ⟨(ad284.add ((a1).toNat * 7)).block, (ad284.add ((a1).toNat * 7)).off + 2, none⟩ = some (.int .i64 ((rd_T55 l0 a1).f2)) ∧ w'.cell? ⟨(ad284.add ((a1).toNat * 7)).block, (ad284.add ((a1).toNat * 7)).off + 3, none⟩ = some (.int .i64 ((rd_T55 l0 a1).f3)) ∧ w'.cell? ⟨(ad284.add ((a1).toNat * 7)).block, (ad284.add ((a1).toNat * 7)).off + 4, none⟩ = some (.int .i64 ((rd_T55 l0 a1).f4)) ∧ w'.cell? ⟨(ad284.add ((a1).toNat * 7)).block, (ad284.add ((a1).toNat * 7)).off + 5, none⟩ = some (.string ((rd_T55 l0 a1).f5)) ∧ w'.cell? ⟨(ad284.add ((a1).toNat * 7)).block, (ad284.add ((a1).toNat * 7)).off + 6, none⟩ = some (.string ((rd_T55 l0 a1).f6))) (ds := []) #[Z,Z,Z,Z,Z,Z,Z,Z,Z,Z,Z,Z,Z,Z,Z,Z,Z,Z,Z,Z,Z,Z,Z,Z,Z,Z,Z,Z,Z,Z,Z,Z,Z,Z,Z,Z,Z,Z,Z,Z,Z,Z] (by kernel_rfl) rfl rfl ⟨(kC_ BK290.out 0).trans rfl, (kC_ BK290.out 1).trans rfl, ((HB.out.cell (World.block_lt_of_cell? w _ hw297_0)).trans hw297_0), ((HB.out.cell (World.block_lt_of_cell? w _ hw297_1)).trans hw297_1), ((HB.out.cell (World.block_lt_of_cell? w _ hw297_2)).trans hw297_2), ((HB.out.cell (World.block_lt_of_cell? w _ hw297_3)).trans hw297_3), ((HB.out.cell (World.block_lt_of_cell? w _ hw297_4)).trans hw297_4), ((HB.out.cell (World.block_lt_of_cell? w _ hw297_5)).trans hw297_5), ((HB.out.cell (World.block_lt_of_cell? w _ hw297_6)).trans hw297_6)⟩ (fun hHeld => ?_); refine with_tabW spec_OuterOf.tab9 spec_OuterOf.bits9 (fun HT_ HW_ => ?_)
             generalize w68.drew = w69 at HO_5 BK290 HB hx297_0 hx297_1 hx297_2 hx297_3 hx297_4 hx297_5 hx297_6 hHeld ⊢
             refine pu_ (i := 0) (N := some 56) #[Y,Z,Z,Z,Z,Z,Z,Z,Z,Z,Z,Z,Z,Z,Z,Z,Z,Z,Z,Z,Z,Z,Z,Z,Z,Z,Z,Z,Z,Z,Z,Z,Z,Z,Z,Z,Z,Z,Z,Z,Z,Z] ?_
             refine pu_ (i := 2) (N := some 58) #[Y,Z,Y,Z,Z,Z,Z,Z,Z,Z,Z,Z,Z,Z,Z,Z,Z,Z,Z,Z,Z,Z,Z,Z,Z,Z,Z,Z,Z,Z,Z,Z,Z,Z,Z,Z,Z,Z,Z,Z,Z,Z] ?_
             refine tk_ (i := 1) (N := some 57) (v := ?_) (a' := ?_) #[Y,Y,Y,Z,Z,Z,Z,Z,Z,Z,Z,Z,Z,Z,Z,Z,Z,Z,Z,Z,Z,Z,Z,Z,Z,Z,Z,Z,Z,Z,Z,Z,Z,Z,Z,Z,Z,Z,Z,Z,Z,Z] ?_ hHeld ?_ ?_
             rotate_left
             ·
              rintro w' ⟨s0, s1, s2, s3, s4, s5, s6, s7, s8⟩
              go_simp
              with_reducible rfl
             rotate_left
             ·
              simp only [Act.put, List.setIfInBounds_toArray, List.set_cons_zero, List.set_cons_succ, i64_w, i32_w]
              rfl
             refine pu_ (i := 3) (N := some 59) #[Y,Y,Y,Y,Z,Z,Z,Z,Z,Z,Z,Z,Z,Z,Z,Z,Z,Z,Z,Z,Z,Z,Z,Z,Z,Z,Z,Z,Z,Z,Z,Z,Z,Z,Z,Z,Z,Z,Z,Z,Z,Z] ?_
             refine pu_ (i := 4) (N := some 60) #[Y,Y,Y,Y,Y,Z,Z,Z,Z,Z,Z,Z,Z,Z,Z,Z,Z,Z,Z,Z,Z,Z,Z,Z,Z,Z,Z,Z,Z,Z,Z,Z,Z,Z,Z,Z,Z,Z,Z,Z,Z,Z] ?_
             refine pv_ (i := 5) (N := some 61) #[Y,Y,Y,Y,Y,Y,Z,Z,Z,Z,Z,Z,Z,Z,Z,Z,Z,Z,Z,Z,Z,Z,Z,Z,Z,Z,Z,Z,Z,Z,Z,Z,Z,Z,Z,Z,Z,Z,Z,Z,Z,Z] ?_
             refine pv_ (i := 6) (N := some 62) #[Y,Y,Y,Y,Y,Y,Y,Z,Z,Z,Z,Z,Z,Z,Z,Z,Z,Z,Z,Z,Z,Z,Z,Z,Z,Z,Z,Z,Z,Z,Z,Z,Z,Z,Z,Z,Z,Z,Z,Z,Z,Z] ?_
             refine pv_ (i := 7) (N := some 63) #[Y,Y,Y,Y,Y,Y,Y,Y,Z,Z,Z,Z,Z,Z,Z,Z,Z,Z,Z,Z,Z,Z,Z,Z,Z,Z,Z,Z,Z,Z,Z,Z,Z,Z,Z,Z,Z,Z,Z,Z,Z,Z] ?_
             refine pu_ (i := 8) (N := some 64) #[Y,Y,Y,Y,Y,Y,Y,Y,Y,Z,Z,Z,Z,Z,Z,Z,Z,Z,Z,Z,Z,Z,Z,Z,Z,Z,Z,Z,Z,Z,Z,Z,Z,Z,Z,Z,Z,Z,Z,Z,Z,Z] ?_
             refine pu_ (i := 9) (N := some 65) #[Y,Y,Y,Y,Y,Y,Y,Y,Y,Y,Z,Z,Z,Z,Z,Z,Z,Z,Z,Z,Z,Z,Z,Z,Z,Z,Z,Z,Z,Z,Z,Z,Z,Z,Z,Z,Z,Z,Z,Z,Z,Z] ?_
             refine pv_ (i := 10) (N := some 66) #[Y,Y,Y,Y,Y,Y,Y,Y,Y,Y,Y,Z,Z,Z,Z,Z,Z,Z,Z,Z,Z,Z,Z,Z,Z,Z,Z,Z,Z,Z,Z,Z,Z,Z,Z,Z,Z,Z,Z,Z,Z,Z] ?_
             refine pv_ (i := 11) (N := some 67) #[Y,Y,Y,Y,Y,Y,Y,Y,Y,Y,Y,Y,Z,Z,Z,Z,Z,Z,Z,Z,Z,Z,Z,Z,Z,Z,Z,Z,Z,Z,Z,Z,Z,Z,Z,Z,Z,Z,Z,Z,Z,Z] ?_
             refine pv_ (i := 12) (N := some 68) #[Y,Y,Y,Y,Y,Y,Y,Y,Y,Y,Y,Y,Y,Z,Z,Z,Z,Z,Z,Z,Z,Z,Z,Z,Z,Z,Z,Z,Z,Z,Z,Z,Z,Z,Z,Z,Z,Z,Z,Z,Z,Z] ?_
             refine pv_ (i := 13) (N := some 69) #[Y,Y,Y,Y,Y,Y,Y,Y,Y,Y,Y,Y,Y,Y,Z,Z,Z,Z,Z,Z,Z,Z,Z,Z,Z,Z,Z,Z,Z,Z,Z,Z,Z,Z,Z,Z,Z,Z,Z,Z,Z,Z] ?_
             refine pv_ (i := 14) (N := some 70) #[Y,Y,Y,Y,Y,Y,Y,Y,Y,Y,Y,Y,Y,Y,Y,Z,Z,Z,Z,Z,Z,Z,Z,Z,Z,Z,Z,Z,Z,Z,Z,Z,Z,Z,Z,Z,Z,Z,Z,Z,Z,Z] ?_
             refine pv_ (i := 15) (N := some 71) #[Y,Y,Y,Y,Y,Y,Y,Y,Y,Y,Y,Y,Y,Y,Y,Y,Z,Z,Z,Z,Z,Z,Z,Z,Z,Z,Z,Z,Z,Z,Z,Z,Z,Z,Z,Z,Z,Z,Z,Z,Z,Z] ?_
             refine pv_ (i := 16) (N := some 72) #[Y,Y,Y,Y,Y,Y,Y,Y,Y,Y,Y,Y,Y,Y,Y,Y,Y,Z,Z,Z,Z,Z,Z,Z,Z,Z,Z,Z,Z,Z,Z,Z,Z,Z,Z,Z,Z,Z,Z,Z,Z,Z] ?_
             refine pv_ (i := 17) (N := some 73) #[Y,Y,Y,Y,Y,Y,Y,Y,Y,Y,Y,Y,Y,Y,Y,Y,Y,Y,Z,Z,Z,Z,Z,Z,Z,Z,Z,Z,Z,Z,Z,Z,Z,Z,Z,Z,Z,Z,Z,Z,Z,Z] ?_
             refine pv_ (i := 18) (N := some 74) #[Y,Y,Y,Y,Y,Y,Y,Y,Y,Y,Y,Y,Y,Y,Y,Y,Y,Y,Y,Z,Z,Z,Z,Z,Z,Z,Z,Z,Z,Z,Z,Z,Z,Z,Z,Z,Z,Z,Z,Z,Z,Z] ?_
             refine pv_ (i := 19) (N := some 75) #[Y,Y,Y,Y,Y,Y,Y,Y,Y,Y,Y,Y,Y,Y,Y,Y,Y,Y,Y,Y,Z,Z,Z,Z,Z,Z,Z,Z,Z,Z,Z,Z,Z,Z,Z,Z,Z,Z,Z,Z,Z,Z] ?_
             refine pu_ (i := 20) (N := some 76) #[Y,Y,Y,Y,Y,Y,Y,Y,Y,Y,Y,Y,Y,Y,Y,Y,Y,Y,Y,Y,Y,Z,Z,Z,Z,Z,Z,Z,Z,Z,Z,Z,Z,Z,Z,Z,Z,Z,Z,Z,Z,Z] ?_
             refine pu_ (i := 21) (N := some 77) #[Y,Y,Y,Y,Y,Y,Y,Y,Y,Y,Y,Y,Y,Y,Y,Y,Y,Y,Y,Y,Y,Y,Z,Z,Z,Z,Z,Z,Z,Z,Z,Z,Z,Z,Z,Z,Z,Z,Z,Z,Z,Z] ?_
             refine pu_ (i := 22) (N := some 78) #[Y,Y,Y,Y,Y,Y,Y,Y,Y,Y,Y,Y,Y,Y,Y,Y,Y,Y,Y,Y,Y,Y,Y,Z,Z,Z,Z,Z,Z,Z,Z,Z,Z,Z,Z,Z,Z,Z,Z,Z,Z,Z] ?_
             refine tk_ (i := 23) (N := some 79) (v := ?_) (a' := ?_) #[Y,Y,Y,Y,Y,Y,Y,Y,Y,Y,Y,Y,Y,Y,Y,Y,Y,Y,Y,Y,Y,Y,Y,Y,Z,Z,Z,Z,Z,Z,Z,Z,Z,Z,Z,Z,Z,Z,Z,Z,Z,Z] ?_ hHeld ?_ ?_
             rotate_left
             ·
              rintro w' ⟨s0, s1, s2, s3, s4, s5, s6, s7, s8⟩
              go_simp
              with_reducible rfl
             rotate_left
             ·
              simp only [Act.put, List.setIfInBounds_toArray, List.set_cons_zero, List.set_cons_succ, i64_w, i32_w]
              rfl
             refine pu_ (i := 24) (N := some 80) #[Y,Y,Y,Y,Y,Y,Y,Y,Y,Y,Y,Y,Y,Y,Y,Y,Y,Y,Y,Y,Y,Y,Y,Y,Y,Z,Z,Z,Z,Z,Z,Z,Z,Z,Z,Z,Z,Z,Z,Z,Z,Z] ?_
             refine pu_ (i := 25) (N := some 81) #[Y,Y,Y,Y,Y,Y,Y,Y,Y,Y,Y,Y,Y,Y,Y,Y,Y,Y,Y,Y,Y,Y,Y,Y,Y,Y,Z,Z,Z,Z,Z,Z,Z,Z,Z,Z,Z,Z,Z,Z,Z,Z] ?_
             refine pu_ (i := 26) (N := some 82) #[Y,Y,Y,Y,Y,Y,Y,Y,Y,Y,Y,Y,Y,Y,Y,Y,Y,Y,Y,Y,Y,Y,Y,Y,Y,Y,Y,Z,Z,Z,Z,Z,Z,Z,Z,Z,Z,Z,Z,Z,Z,Z] ?_
             refine pu_ (i := 27) (N := some 83) #[Y,Y,Y,Y,Y,Y,Y,Y,Y,Y,Y,Y,Y,Y,Y,Y,Y,Y,Y,Y,Y,Y,Y,Y,Y,Y,Y,Y,Z,Z,Z,Z,Z,Z,Z,Z,Z,Z,Z,Z,Z,Z] ?_
             refine pu_ (i := 29) (N := some 85) #[Y,Y,Y,Y,Y,Y,Y,Y,Y,Y,Y,Y,Y,Y,Y,Y,Y,Y,Y,Y,Y,Y,Y,Y,Y,Y,Y,Y,Z,Y,Z,Z,Z,Z,Z,Z,Z,Z,Z,Z,Z,Z] ?_
             refine tk_ (i := 28) (N := some 84) (v := ?_) (a' := ?_) #[Y,Y,Y,Y,Y,Y,Y,Y,Y,Y,Y,Y,Y,Y,Y,Y,Y,Y,Y,Y,Y,Y,Y,Y,Y,Y,Y,Y,Y,Y,Z,Z,Z,Z,Z,Z,Z,Z,Z,Z,Z,Z] ?_ hHeld ?_ ?_
             rotate_left
             ·
              rintro w' ⟨s0, s1, s2, s3, s4, s5, s6, s7, s8⟩
              go_simp
              with_reducible rfl
             rotate_left
             ·
              simp only [Act.put, List.setIfInBounds_toArray, List.set_cons_zero, List.set_cons_succ, i64_w, i32_w]
              rfl
             refine pu_ (i := 30) (N := some 86) #[Y,Y,Y,Y,Y,Y,Y,Y,Y,Y,Y,Y,Y,Y,Y,Y,Y,Y,Y,Y,Y,Y,Y,Y,Y,Y,Y,Y,Y,Y,Y,Z,Z,Z,Z,Z,Z,Z,Z,Z,Z,Z] ?_
             refine pu_ (i := 31) (N := some 87) #[Y,Y,Y,Y,Y,Y,Y,Y,Y,Y,Y,Y,Y,Y,Y,Y,Y,Y,Y,Y,Y,Y,Y,Y,Y,Y,Y,Y,Y,Y,Y,Y,Z,Z,Z,Z,Z,Z,Z,Z,Z,Z] ?_
             refine pu_ (i := 32) (N := some 88) #[Y,Y,Y,Y,Y,Y,Y,Y,Y,Y,Y,Y,Y,Y,Y,Y,Y,Y,Y,Y,Y,Y,Y,Y,Y,Y,Y,Y,Y,Y,Y,Y,Y,Z,Z,Z,Z,Z,Z,Z,Z,Z] ?_
             refine pu_ (i := 34) (N := some 90) #[Y,Y,Y,Y,Y,Y,Y,Y,Y,Y,Y,Y,Y,Y,Y,Y,Y,Y,Y,Y,Y,Y,Y,Y,Y,Y,Y,Y,Y,Y,Y,Y,Y,Z,Y,Z,Z,Z,Z,Z,Z,Z] ?_
             refine pu_ (i := 35) (N := some 91) #[Y,Y,Y,Y,Y,Y,Y,Y,Y,Y,Y,Y,Y,Y,Y,Y,Y,Y,Y,Y,Y,Y,Y,Y,Y,Y,Y,Y,Y,Y,Y,Y,Y,Z,Y,Y,Z,Z,Z,Z,Z,Z] ?_
             refine pu_ (i := 36) (N := some 92) #[Y,Y,Y,Y,Y,Y,Y,Y,Y,Y,Y,Y,Y,Y,Y,Y,Y,Y,Y,Y,Y,Y,Y,Y,Y,Y,Y,Y,Y,Y,Y,Y,Y,Z,Y,Y,Y,Z,Z,Z,Z,Z] ?_
             refine tk_ (i := 33) (N := some 89) (v := ?_) (a' := ?_) #[Y,Y,Y,Y,Y,Y,Y,Y,Y,Y,Y,Y,Y,Y,Y,Y,Y,Y,Y,Y,Y,Y,Y,Y,Y,Y,Y,Y,Y,Y,Y,Y,Y,Y,Y,Y,Y,Z,Z,Z,Z,Z] ?_ hHeld ?_ ?_
             rotate_left
             ·
              rintro w' ⟨s0, s1, s2, s3, s4, s5, s6, s7, s8⟩
              go_simp
              with_reducible rfl
             rotate_left
             ·
              simp only [Act.put, List.setIfInBounds_toArray, List.set_cons_zero, List.set_cons_succ, i64_w, i32_w]
              rfl
             refine tk_ (i := 37) (N := some 93) (v := ?_) (a' := ?_) #[Y,Y,Y,Y,Y,Y,Y,Y,Y,Y,Y,Y,Y,Y,Y,Y,Y,Y,Y,Y,Y,Y,Y,Y,Y,Y,Y,Y,Y,Y,Y,Y,Y,Y,Y,Y,Y,Y,Z,Z,Z,Z] ?_ hHeld ?_ ?_
             rotate_left
             ·
              rintro w' ⟨s0, s1, s2, s3, s4, s5, s6, s7, s8⟩
              go_simp
              with_reducible rfl
             rotate_left
             ·
              simp only [Act.put, List.setIfInBounds_toArray, List.set_cons_zero, List.set_cons_succ, i64_w, i32_w]
              rfl
             refine one_ (i := 38) (N := some 94) #[Y,Y,Y,Y,Y,Y,Y,Y,Y,Y,Y,Y,Y,Y,Y,Y,Y,Y,Y,Y,Y,Y,Y,Y,Y,Y,Y,Y,Y,Y,Y,Y,Y,Y,Y,Y,Y,Y,Y,Z,Z,Z] rfl rfl (one_of HT_.out (by kernel_rfl)) (by decide) (fun K hK => ?_)
             refine goes_ Tryd.func84 (by kernel_rfl) rfl #[.agg #[.int .i64 ((rd_T55 l0 a1).f0), .int .i64 ((rd_T55 l0 a1).f1), .int .i64 ((rd_T55 l0 a1).f2), .int .i64 ((rd_T55 l0 a1).f3), .int .i64 ((rd_T55 l0 a1).f4), .string ((rd_T55 l0 a1).f5), .string ((rd_T55 l0 a1).f6)]] (by rfl) rfl rfl (by (try simp only [List.map_toArray, List.map_cons, List.map_nil]); first | done | rfl | (simp only [List.length_drop, List.length_take]; rfl)) ?_
             with_reducible refine (spec_l16Param.calls ((rd_T55 l0 a1).f0) ((rd_T55 l0 a1).f1) ((rd_T55 l0 a1).f2) ((rd_T55 l0 a1).f3) ((rd_T55 l0 a1).f4) ((rd_T55 l0 a1).f5) ((rd_T55 l0 a1).f6) t298 _ A67.out).mono ?_
             rintro e w70 ⟨rfl, hb⟩
             refine ⟨_, rfl, ?_⟩
             replace HO_5 := Ad_.mk (Rb_ HO_5.out hb)
             replace BK290 := Ad_.mk (blk_below (g := gb290) (o := .cells #[.int .i64 t288, .int .i64 t289] 59 (0, 0)) (Ko_ BK290.out) hb)
             replace HB := Ad_.mk (bP_ (Bo_ HB.out GE290.out) hb)
             (try clear hb)
             (try clear hb2)
             (try clear hk)
             (try clear hi)
             refine hK.out _ _ ⟨(kC_ BK290.out 0).trans rfl, (kC_ BK290.out 1).trans rfl, ((HB.out.cell (World.block_lt_of_cell? w _ hw297_0)).trans hw297_0), ((HB.out.cell (World.block_lt_of_cell? w _ hw297_1)).trans hw297_1), ((HB.out.cell (World.block_lt_of_cell? w _ hw297_2)).trans hw297_2), ((HB.out.cell (World.block_lt_of_cell? w _ hw297_3)).trans hw297_3), ((HB.out.cell (World.block_lt_of_cell? w _ hw297_4)).trans hw297_4), ((HB.out.cell (World.block_lt_of_cell? w _ hw297_5)).trans hw297_5), ((HB.out.cell (World.block_lt_of_cell? w _ hw297_6)).trans hw297_6)⟩ (fun hHeld => ?_)
             clear hK K
             refine norm_ (a' := ?_) ?_ ?_
             rotate_left
             ·
              show Act.put _ (some 94) _ = _
              simp only [Act.put, List.setIfInBounds_toArray, List.set_cons_zero, List.set_cons_succ, i64_w, i32_w]
              rfl
             refine pu_ (i := 39) (N := some 95) #[Y,Y,Y,Y,Y,Y,Y,Y,Y,Y,Y,Y,Y,Y,Y,Y,Y,Y,Y,Y,Y,Y,Y,Y,Y,Y,Y,Y,Y,Y,Y,Y,Y,Y,Y,Y,Y,Y,Y,Y,Z,Z] ?_
             refine pu_ (i := 40) (N := some 96) #[Y,Y,Y,Y,Y,Y,Y,Y,Y,Y,Y,Y,Y,Y,Y,Y,Y,Y,Y,Y,Y,Y,Y,Y,Y,Y,Y,Y,Y,Y,Y,Y,Y,Y,Y,Y,Y,Y,Y,Y,Y,Z] ?_
             refine pu_ (i := 41) (N := some 97) #[Y,Y,Y,Y,Y,Y,Y,Y,Y,Y,Y,Y,Y,Y,Y,Y,Y,Y,Y,Y,Y,Y,Y,Y,Y,Y,Y,Y,Y,Y,Y,Y,Y,Y,Y,Y,Y,Y,Y,Y,Y,Y] ?_
             refine done_ (done_of HT_.out (by kernel_rfl)) ?_
             try go_wp2
             go_meet
             case rel => exact ⟨_, ((t289 == t298)), fs_, H', ⟨by have := HJ2.out; have := HK2.out; first | omega | exact Nat.le_refl _⟩, ⟨Ro_ HO_5.out⟩, ⟨Ko_ BK290.out⟩, ⟨Bo_ HB.out GE290.out⟩⟩
            rw [if_pos c33] at H
            have c33b0 := decide_eq_true c33
            clear c33
            (first | rw [c33b0] | (simp only [i64_w, i32_w]; rw [c33b0]) | skip)
            by_cases c34 : t288 ≥ 0
            rotate_left
            ·
             rw [if_neg c34] at H
             have c34b0 := decide_eq_false c34
             clear c34
             by_cases c53 : t288 < 0
             ·
              rw [if_pos c53] at H
              have c53b0 := decide_eq_true c53
              clear c53
              have H' := Ad_.mk H
              clear H
              try go_wp2
              have n0_ : Ad_ (Kd.R k59 59 ((w31.setCell ⟨gb290, 0, none⟩ (.int .i64 t288)).setCell ⟨gb290, 1, none⟩ (.int .i64 t289)) w.heap.size (fun k_ => k_ ≠ gb290) u5 x5_2) := ⟨by (with_reducible repeat (first | apply Kd.R_alloc | apply Kd.R_drewN | apply Kd.R_drew)); exact Kd.R_mono (Kd.R_far (p := ⟨gb290, 1, none⟩) (Kd.R_far (p := ⟨gb290, 0, none⟩) (Kd.R_mono HO_5.out (fun k_ hk => (⟨hk, hk.2⟩ : _ ∧ k_ ≠ gb290))) (fun _ hk => hk.2) (.int .i64 t288)) (fun _ hk => hk.2) (.int .i64 t289)) (fun _ hk => hk.1.2)⟩
              have n1_ : Ad_ (((w31.setCell ⟨gb290, 0, none⟩ (.int .i64 t288)).setCell ⟨gb290, 1, none⟩ (.int .i64 t289)).heap[gb290]? = some (.cells #[.int .i64 t288, .int .i64 t289] 59 (0, 0))) := ⟨by (with_reducible repeat (first | refine kN_ ?_ _ | refine k1_ ?_ | refine kA_ ?_ _)); refine blk_put (cs := #[.int .i64 t288, .int .i64 0]) ?_ 1 _ rfl; (with_reducible repeat (first | refine kN_ ?_ _ | refine k1_ ?_ | refine kA_ ?_ _)); refine blk_put (cs := #[.int .i64 0, .int .i64 0]) ?_ 0 _ rfl; (with_reducible repeat (first | refine kN_ ?_ _ | refine k1_ ?_ | refine kA_ ?_ _)); exact BK290.out⟩
              have n2_ : Ad_ (Below w.heap.size w ((w31.setCell ⟨gb290, 0, none⟩ (.int .i64 t288)).setCell ⟨gb290, 1, none⟩ (.int .i64 t289))) := ⟨Bo_ HB.out GE290.out⟩
              (try clear HO_5)
              (try clear BK290)
              (try clear HB)
              generalize ((w31.setCell ⟨gb290, 0, none⟩ (.int .i64 t288)).setCell ⟨gb290, 1, none⟩ (.int .i64 t289)) = w54 at n0_ n1_ n2_ ⊢
              have HO_5 := n0_
              have BK290 := n1_
              have HB := n2_
              clear n0_ n1_ n2_
              replace HO_5 := Ad_.mk (Kd.R_drew HO_5.out)
              replace BK290 := Ad_.mk (k1_ BK290.out)
              replace HB := Ad_.mk (b1_ HB.out)
              refine start_ (n := 42) (S := fun w' => w'.cell? ⟨gb290, 0, none⟩ = some (.int .i64 t288) ∧ w'.cell? ⟨gb290, 1, none⟩ = some (.int .i64 t289)) (ds := []) #[Z,Z,Z,Z,Z,Z,Z,Z,Z,Z,Z,Z,Z,Z,Z,Z,Z,Z,Z,Z,Z,Z,Z,Z,Z,Z,Z,Z,Z,Z,Z,Z,Z,Z,Z,Z,Z,Z,Z,Z,Z,Z] (by kernel_rfl) rfl rfl ⟨(kC_ BK290.out 0).trans rfl, (kC_ BK290.out 1).trans rfl⟩ (fun hHeld => ?_); refine with_tabW spec_OuterOf.tab9 spec_OuterOf.bits9 (fun HT_ HW_ => ?_)
              generalize w54.drew = w55 at HO_5 BK290 HB hHeld ⊢
              refine pu_ (i := 0) (N := some 56) #[Y,Z,Z,Z,Z,Z,Z,Z,Z,Z,Z,Z,Z,Z,Z,Z,Z,Z,Z,Z,Z,Z,Z,Z,Z,Z,Z,Z,Z,Z,Z,Z,Z,Z,Z,Z,Z,Z,Z,Z,Z,Z] ?_
              refine pu_ (i := 2) (N := some 58) #[Y,Z,Y,Z,Z,Z,Z,Z,Z,Z,Z,Z,Z,Z,Z,Z,Z,Z,Z,Z,Z,Z,Z,Z,Z,Z,Z,Z,Z,Z,Z,Z,Z,Z,Z,Z,Z,Z,Z,Z,Z,Z] ?_
              refine tk_ (i := 1) (N := some 57) (v := ?_) (a' := ?_) #[Y,Y,Y,Z,Z,Z,Z,Z,Z,Z,Z,Z,Z,Z,Z,Z,Z,Z,Z,Z,Z,Z,Z,Z,Z,Z,Z,Z,Z,Z,Z,Z,Z,Z,Z,Z,Z,Z,Z,Z,Z,Z] ?_ hHeld ?_ ?_
              rotate_left
              ·
               rintro w' ⟨s0, s1⟩
               go_simp
               with_reducible rfl
              rotate_left
              ·
               simp only [Act.put, List.setIfInBounds_toArray, List.set_cons_zero, List.set_cons_succ, i64_w, i32_w]
               rfl
              refine pu_ (i := 3) (N := some 59) #[Y,Y,Y,Y,Z,Z,Z,Z,Z,Z,Z,Z,Z,Z,Z,Z,Z,Z,Z,Z,Z,Z,Z,Z,Z,Z,Z,Z,Z,Z,Z,Z,Z,Z,Z,Z,Z,Z,Z,Z,Z,Z] ?_
              refine pu_ (i := 4) (N := some 60) #[Y,Y,Y,Y,Y,Z,Z,Z,Z,Z,Z,Z,Z,Z,Z,Z,Z,Z,Z,Z,Z,Z,Z,Z,Z,Z,Z,Z,Z,Z,Z,Z,Z,Z,Z,Z,Z,Z,Z,Z,Z,Z] ?_
              refine pu_ (i := 5) (N := some 61) #[Y,Y,Y,Y,Y,Y,Z,Z,Z,Z,Z,Z,Z,Z,Z,Z,Z,Z,Z,Z,Z,Z,Z,Z,Z,Z,Z,Z,Z,Z,Z,Z,Z,Z,Z,Z,Z,Z,Z,Z,Z,Z] ?_
              refine tk_ (i := 6) (N := some 62) (v := ?_) (a' := ?_) #[Y,Y,Y,Y,Y,Y,Y,Z,Z,Z,Z,Z,Z,Z,Z,Z,Z,Z,Z,Z,Z,Z,Z,Z,Z,Z,Z,Z,Z,Z,Z,Z,Z,Z,Z,Z,Z,Z,Z,Z,Z,Z] ?_ hHeld ?_ ?_
              rotate_left
              ·
               rintro w' ⟨s0, s1⟩
               go_simp
               with_reducible rfl
              rotate_left
              ·
               simp only [Act.put, List.setIfInBounds_toArray, List.set_cons_zero, List.set_cons_succ, i64_w, i32_w]
               rfl
              refine pu_ (i := 7) (N := some 63) #[Y,Y,Y,Y,Y,Y,Y,Y,Z,Z,Z,Z,Z,Z,Z,Z,Z,Z,Z,Z,Z,Z,Z,Z,Z,Z,Z,Z,Z,Z,Z,Z,Z,Z,Z,Z,Z,Z,Z,Z,Z,Z] ?_
              refine pu_ (i := 8) (N := some 64) #[Y,Y,Y,Y,Y,Y,Y,Y,Y,Z,Z,Z,Z,Z,Z,Z,Z,Z,Z,Z,Z,Z,Z,Z,Z,Z,Z,Z,Z,Z,Z,Z,Z,Z,Z,Z,Z,Z,Z,Z,Z,Z] ?_
              refine pu_ (i := 9) (N := some 65) #[Y,Y,Y,Y,Y,Y,Y,Y,Y,Y,Z,Z,Z,Z,Z,Z,Z,Z,Z,Z,Z,Z,Z,Z,Z,Z,Z,Z,Z,Z,Z,Z,Z,Z,Z,Z,Z,Z,Z,Z,Z,Z] ?_
              refine pv_ (i := 10) (N := some 66) #[Y,Y,Y,Y,Y,Y,Y,Y,Y,Y,Y,Z,Z,Z,Z,Z,Z,Z,Z,Z,Z,Z,Z,Z,Z,Z,Z,Z,Z,Z,Z,Z,Z,Z,Z,Z,Z,Z,Z,Z,Z,Z] ?_
              refine pv_ (i := 11) (N := some 67) #[Y,Y,Y,Y,Y,Y,Y,Y,Y,Y,Y,Y,Z,Z,Z,Z,Z,Z,Z,Z,Z,Z,Z,Z,Z,Z,Z,Z,Z,Z,Z,Z,Z,Z,Z,Z,Z,Z,Z,Z,Z,Z] ?_
              refine pv_ (i := 12) (N := some 68) #[Y,Y,Y,Y,Y,Y,Y,Y,Y,Y,Y,Y,Y,Z,Z,Z,Z,Z,Z,Z,Z,Z,Z,Z,Z,Z,Z,Z,Z,Z,Z,Z,Z,Z,Z,Z,Z,Z,Z,Z,Z,Z] ?_
              refine pv_ (i := 13) (N := some 69) #[Y,Y,Y,Y,Y,Y,Y,Y,Y,Y,Y,Y,Y,Y,Z,Z,Z,Z,Z,Z,Z,Z,Z,Z,Z,Z,Z,Z,Z,Z,Z,Z,Z,Z,Z,Z,Z,Z,Z,Z,Z,Z] ?_
              refine pv_ (i := 14) (N := some 70) #[Y,Y,Y,Y,Y,Y,Y,Y,Y,Y,Y,Y,Y,Y,Y,Z,Z,Z,Z,Z,Z,Z,Z,Z,Z,Z,Z,Z,Z,Z,Z,Z,Z,Z,Z,Z,Z,Z,Z,Z,Z,Z] ?_
              refine pv_ (i := 15) (N := some 71) #[Y,Y,Y,Y,Y,Y,Y,Y,Y,Y,Y,Y,Y,Y,Y,Y,Z,Z,Z,Z,Z,Z,Z,Z,Z,Z,Z,Z,Z,Z,Z,Z,Z,Z,Z,Z,Z,Z,Z,Z,Z,Z] ?_
              refine pv_ (i := 16) (N := some 72) #[Y,Y,Y,Y,Y,Y,Y,Y,Y,Y,Y,Y,Y,Y,Y,Y,Y,Z,Z,Z,Z,Z,Z,Z,Z,Z,Z,Z,Z,Z,Z,Z,Z,Z,Z,Z,Z,Z,Z,Z,Z,Z] ?_
              refine pv_ (i := 17) (N := some 73) #[Y,Y,Y,Y,Y,Y,Y,Y,Y,Y,Y,Y,Y,Y,Y,Y,Y,Y,Z,Z,Z,Z,Z,Z,Z,Z,Z,Z,Z,Z,Z,Z,Z,Z,Z,Z,Z,Z,Z,Z,Z,Z] ?_
              refine pv_ (i := 18) (N := some 74) #[Y,Y,Y,Y,Y,Y,Y,Y,Y,Y,Y,Y,Y,Y,Y,Y,Y,Y,Y,Z,Z,Z,Z,Z,Z,Z,Z,Z,Z,Z,Z,Z,Z,Z,Z,Z,Z,Z,Z,Z,Z,Z] ?_
              refine pv_ (i := 19) (N := some 75) #[Y,Y,Y,Y,Y,Y,Y,Y,Y,Y,Y,Y,Y,Y,Y,Y,Y,Y,Y,Y,Z,Z,Z,Z,Z,Z,Z,Z,Z,Z,Z,Z,Z,Z,Z,Z,Z,Z,Z,Z,Z,Z] ?_
              refine pu_ (i := 20) (N := some 76) #[Y,Y,Y,Y,Y,Y,Y,Y,Y,Y,Y,Y,Y,Y,Y,Y,Y,Y,Y,Y,Y,Z,Z,Z,Z,Z,Z,Z,Z,Z,Z,Z,Z,Z,Z,Z,Z,Z,Z,Z,Z,Z] ?_
              refine pu_ (i := 21) (N := some 77) #[Y,Y,Y,Y,Y,Y,Y,Y,Y,Y,Y,Y,Y,Y,Y,Y,Y,Y,Y,Y,Y,Y,Z,Z,Z,Z,Z,Z,Z,Z,Z,Z,Z,Z,Z,Z,Z,Z,Z,Z,Z,Z] ?_
              refine pu_ (i := 22) (N := some 78) #[Y,Y,Y,Y,Y,Y,Y,Y,Y,Y,Y,Y,Y,Y,Y,Y,Y,Y,Y,Y,Y,Y,Y,Z,Z,Z,Z,Z,Z,Z,Z,Z,Z,Z,Z,Z,Z,Z,Z,Z,Z,Z] ?_
              refine tk_ (i := 23) (N := some 79) (v := ?_) (a' := ?_) #[Y,Y,Y,Y,Y,Y,Y,Y,Y,Y,Y,Y,Y,Y,Y,Y,Y,Y,Y,Y,Y,Y,Y,Y,Z,Z,Z,Z,Z,Z,Z,Z,Z,Z,Z,Z,Z,Z,Z,Z,Z,Z] ?_ hHeld ?_ ?_
              rotate_left
              ·
               rintro w' ⟨s0, s1⟩
               go_simp
               with_reducible rfl
              rotate_left
              ·
               simp only [Act.put, List.setIfInBounds_toArray, List.set_cons_zero, List.set_cons_succ, i64_w, i32_w]
               rfl
              refine pu_ (i := 24) (N := some 80) #[Y,Y,Y,Y,Y,Y,Y,Y,Y,Y,Y,Y,Y,Y,Y,Y,Y,Y,Y,Y,Y,Y,Y,Y,Y,Z,Z,Z,Z,Z,Z,Z,Z,Z,Z,Z,Z,Z,Z,Z,Z,Z] ?_
              refine pu_ (i := 25) (N := some 81) #[Y,Y,Y,Y,Y,Y,Y,Y,Y,Y,Y,Y,Y,Y,Y,Y,Y,Y,Y,Y,Y,Y,Y,Y,Y,Y,Z,Z,Z,Z,Z,Z,Z,Z,Z,Z,Z,Z,Z,Z,Z,Z] ?_
              refine pu_ (i := 26) (N := some 82) #[Y,Y,Y,Y,Y,Y,Y,Y,Y,Y,Y,Y,Y,Y,Y,Y,Y,Y,Y,Y,Y,Y,Y,Y,Y,Y,Y,Z,Z,Z,Z,Z,Z,Z,Z,Z,Z,Z,Z,Z,Z,Z] ?_
              refine pv_ (i := 27) (N := some 83) #[Y,Y,Y,Y,Y,Y,Y,Y,Y,Y,Y,Y,Y,Y,Y,Y,Y,Y,Y,Y,Y,Y,Y,Y,Y,Y,Y,Y,Z,Z,Z,Z,Z,Z,Z,Z,Z,Z,Z,Z,Z,Z] ?_
              refine pv_ (i := 28) (N := some 84) #[Y,Y,Y,Y,Y,Y,Y,Y,Y,Y,Y,Y,Y,Y,Y,Y,Y,Y,Y,Y,Y,Y,Y,Y,Y,Y,Y,Y,Y,Z,Z,Z,Z,Z,Z,Z,Z,Z,Z,Z,Z,Z] ?_
              refine pv_ (i := 29) (N := some 85) #[Y,Y,Y,Y,Y,Y,Y,Y,Y,Y,Y,Y,Y,Y,Y,Y,Y,Y,Y,Y,Y,Y,Y,Y,Y,Y,Y,Y,Y,Y,Z,Z,Z,Z,Z,Z,Z,Z,Z,Z,Z,Z] ?_
              refine pv_ (i := 30) (N := some 86) #[Y,Y,Y,Y,Y,Y,Y,Y,Y,Y,Y,Y,Y,Y,Y,Y,Y,Y,Y,Y,Y,Y,Y,Y,Y,Y,Y,Y,Y,Y,Y,Z,Z,Z,Z,Z,Z,Z,Z,Z,Z,Z] ?_
              refine pv_ (i := 31) (N := some 87) #[Y,Y,Y,Y,Y,Y,Y,Y,Y,Y,Y,Y,Y,Y,Y,Y,Y,Y,Y,Y,Y,Y,Y,Y,Y,Y,Y,Y,Y,Y,Y,Y,Z,Z,Z,Z,Z,Z,Z,Z,Z,Z] ?_
              refine pv_ (i := 32) (N := some 88) #[Y,Y,Y,Y,Y,Y,Y,Y,Y,Y,Y,Y,Y,Y,Y,Y,Y,Y,Y,Y,Y,Y,Y,Y,Y,Y,Y,Y,Y,Y,Y,Y,Y,Z,Z,Z,Z,Z,Z,Z,Z,Z] ?_
              refine pv_ (i := 33) (N := some 89) #[Y,Y,Y,Y,Y,Y,Y,Y,Y,Y,Y,Y,Y,Y,Y,Y,Y,Y,Y,Y,Y,Y,Y,Y,Y,Y,Y,Y,Y,Y,Y,Y,Y,Y,Z,Z,Z,Z,Z,Z,Z,Z] ?_
              refine pv_ (i := 34) (N := some 90) #[Y,Y,Y,Y,Y,Y,Y,Y,Y,Y,Y,Y,Y,Y,Y,Y,Y,Y,Y,Y,Y,Y,Y,Y,Y,Y,Y,Y,Y,Y,Y,Y,Y,Y,Y,Z,Z,Z,Z,Z,Z,Z] ?_
              refine pv_ (i := 35) (N := some 91) #[Y,Y,Y,Y,Y,Y,Y,Y,Y,Y,Y,Y,Y,Y,Y,Y,Y,Y,Y,Y,Y,Y,Y,Y,Y,Y,Y,Y,Y,Y,Y,Y,Y,Y,Y,Y,Z,Z,Z,Z,Z,Z] ?_
              refine pv_ (i := 36) (N := some 92) #[Y,Y,Y,Y,Y,Y,Y,Y,Y,Y,Y,Y,Y,Y,Y,Y,Y,Y,Y,Y,Y,Y,Y,Y,Y,Y,Y,Y,Y,Y,Y,Y,Y,Y,Y,Y,Y,Z,Z,Z,Z,Z] ?_
              refine pv_ (i := 37) (N := some 93) #[Y,Y,Y,Y,Y,Y,Y,Y,Y,Y,Y,Y,Y,Y,Y,Y,Y,Y,Y,Y,Y,Y,Y,Y,Y,Y,Y,Y,Y,Y,Y,Y,Y,Y,Y,Y,Y,Y,Z,Z,Z,Z] ?_
              refine pv_ (i := 38) (N := some 94) #[Y,Y,Y,Y,Y,Y,Y,Y,Y,Y,Y,Y,Y,Y,Y,Y,Y,Y,Y,Y,Y,Y,Y,Y,Y,Y,Y,Y,Y,Y,Y,Y,Y,Y,Y,Y,Y,Y,Y,Z,Z,Z] ?_
              refine pv_ (i := 39) (N := some 95) #[Y,Y,Y,Y,Y,Y,Y,Y,Y,Y,Y,Y,Y,Y,Y,Y,Y,Y,Y,Y,Y,Y,Y,Y,Y,Y,Y,Y,Y,Y,Y,Y,Y,Y,Y,Y,Y,Y,Y,Y,Z,Z] ?_
              refine pv_ (i := 40) (N := some 96) #[Y,Y,Y,Y,Y,Y,Y,Y,Y,Y,Y,Y,Y,Y,Y,Y,Y,Y,Y,Y,Y,Y,Y,Y,Y,Y,Y,Y,Y,Y,Y,Y,Y,Y,Y,Y,Y,Y,Y,Y,Y,Z] ?_
              refine pu_ (i := 41) (N := some 97) #[Y,Y,Y,Y,Y,Y,Y,Y,Y,Y,Y,Y,Y,Y,Y,Y,Y,Y,Y,Y,Y,Y,Y,Y,Y,Y,Y,Y,Y,Y,Y,Y,Y,Y,Y,Y,Y,Y,Y,Y,Y,Y] ?_
              refine done_ (done_of HT_.out (by kernel_rfl)) ?_
              try go_wp2
              go_meet
              case rel => exact ⟨_, (true), fs_, H', ⟨by have := HJ2.out; have := HK2.out; first | omega | exact Nat.le_refl _⟩, ⟨Ro_ HO_5.out⟩, ⟨Ko_ BK290.out⟩, ⟨Bo_ HB.out GE290.out⟩⟩
             rw [if_neg c53] at H
             have c53b0 := decide_eq_false c53
             clear c53
             by_cases c56 : t288 = a1
             rotate_left
             ·
              rw [if_neg c56] at H
              have c56b0 : (t288 == a1) = false := beq_eq_false_iff_ne.mpr c56
              have c56b1 : (t288 != a1) = true := bne_iff_ne.mpr c56
              have H' := Ad_.mk H
              clear H
              try go_wp2
              have n0_ : Ad_ (Kd.R k59 59 ((w31.setCell ⟨gb290, 0, none⟩ (.int .i64 t288)).setCell ⟨gb290, 1, none⟩ (.int .i64 t289)) w.heap.size (fun k_ => k_ ≠ gb290) u5 x5_2) := ⟨by (with_reducible repeat (first | apply Kd.R_alloc | apply Kd.R_drewN | apply Kd.R_drew)); exact Kd.R_mono (Kd.R_far (p := ⟨gb290, 1, none⟩) (Kd.R_far (p := ⟨gb290, 0, none⟩) (Kd.R_mono HO_5.out (fun k_ hk => (⟨hk, hk.2⟩ : _ ∧ k_ ≠ gb290))) (fun _ hk => hk.2) (.int .i64 t288)) (fun _ hk => hk.2) (.int .i64 t289)) (fun _ hk => hk.1.2)⟩
              have n1_ : Ad_ (((w31.setCell ⟨gb290, 0, none⟩ (.int .i64 t288)).setCell ⟨gb290, 1, none⟩ (.int .i64 t289)).heap[gb290]? = some (.cells #[.int .i64 t288, .int .i64 t289] 59 (0, 0))) := ⟨by (with_reducible repeat (first | refine kN_ ?_ _ | refine k1_ ?_ | refine kA_ ?_ _)); refine blk_put (cs := #[.int .i64 t288, .int .i64 0]) ?_ 1 _ rfl; (with_reducible repeat (first | refine kN_ ?_ _ | refine k1_ ?_ | refine kA_ ?_ _)); refine blk_put (cs := #[.int .i64 0, .int .i64 0]) ?_ 0 _ rfl; (with_reducible repeat (first | refine kN_ ?_ _ | refine k1_ ?_ | refine kA_ ?_ _)); exact BK290.out⟩
              have n2_ : Ad_ (Below w.heap.size w ((w31.setCell ⟨gb290, 0, none⟩ (.int .i64 t288)).setCell ⟨gb290, 1, none⟩ (.int .i64 t289))) := ⟨Bo_ HB.out GE290.out⟩
              (try clear HO_5)
              (try clear BK290)
              (try clear HB)
              generalize ((w31.setCell ⟨gb290, 0, none⟩ (.int .i64 t288)).setCell ⟨gb290, 1, none⟩ (.int .i64 t289)) = w61 at n0_ n1_ n2_ ⊢
              have HO_5 := n0_
              have BK290 := n1_
              have HB := n2_
              clear n0_ n1_ n2_
              replace HO_5 := Ad_.mk (Kd.R_drew HO_5.out)
              replace BK290 := Ad_.mk (k1_ BK290.out)
              replace HB := Ad_.mk (b1_ HB.out)
              refine start_ (n := 42) (S := fun w' => w'.cell? ⟨gb290, 0, none⟩ = some (.int .i64 t288) ∧ w'.cell? ⟨gb290, 1, none⟩ = some (.int .i64 t289)) (ds := []) #[Z,Z,Z,Z,Z,Z,Z,Z,Z,Z,Z,Z,Z,Z,Z,Z,Z,Z,Z,Z,Z,Z,Z,Z,Z,Z,Z,Z,Z,Z,Z,Z,Z,Z,Z,Z,Z,Z,Z,Z,Z,Z] (by kernel_rfl) rfl rfl ⟨(kC_ BK290.out 0).trans rfl, (kC_ BK290.out 1).trans rfl⟩ (fun hHeld => ?_); refine with_tabW spec_OuterOf.tab9 spec_OuterOf.bits9 (fun HT_ HW_ => ?_)
              generalize w61.drew = w62 at HO_5 BK290 HB hHeld ⊢
              refine pu_ (i := 0) (N := some 56) #[Y,Z,Z,Z,Z,Z,Z,Z,Z,Z,Z,Z,Z,Z,Z,Z,Z,Z,Z,Z,Z,Z,Z,Z,Z,Z,Z,Z,Z,Z,Z,Z,Z,Z,Z,Z,Z,Z,Z,Z,Z,Z] ?_
              refine pu_ (i := 2) (N := some 58) #[Y,Z,Y,Z,Z,Z,Z,Z,Z,Z,Z,Z,Z,Z,Z,Z,Z,Z,Z,Z,Z,Z,Z,Z,Z,Z,Z,Z,Z,Z,Z,Z,Z,Z,Z,Z,Z,Z,Z,Z,Z,Z] ?_
              refine tk_ (i := 1) (N := some 57) (v := ?_) (a' := ?_) #[Y,Y,Y,Z,Z,Z,Z,Z,Z,Z,Z,Z,Z,Z,Z,Z,Z,Z,Z,Z,Z,Z,Z,Z,Z,Z,Z,Z,Z,Z,Z,Z,Z,Z,Z,Z,Z,Z,Z,Z,Z,Z] ?_ hHeld ?_ ?_
              rotate_left
              ·
               rintro w' ⟨s0, s1⟩
               go_simp
               with_reducible rfl
              rotate_left
              ·
               simp only [Act.put, List.setIfInBounds_toArray, List.set_cons_zero, List.set_cons_succ, i64_w, i32_w]
               rfl
              refine pu_ (i := 3) (N := some 59) #[Y,Y,Y,Y,Z,Z,Z,Z,Z,Z,Z,Z,Z,Z,Z,Z,Z,Z,Z,Z,Z,Z,Z,Z,Z,Z,Z,Z,Z,Z,Z,Z,Z,Z,Z,Z,Z,Z,Z,Z,Z,Z] ?_
              refine pu_ (i := 4) (N := some 60) #[Y,Y,Y,Y,Y,Z,Z,Z,Z,Z,Z,Z,Z,Z,Z,Z,Z,Z,Z,Z,Z,Z,Z,Z,Z,Z,Z,Z,Z,Z,Z,Z,Z,Z,Z,Z,Z,Z,Z,Z,Z,Z] ?_
              refine pu_ (i := 5) (N := some 61) #[Y,Y,Y,Y,Y,Y,Z,Z,Z,Z,Z,Z,Z,Z,Z,Z,Z,Z,Z,Z,Z,Z,Z,Z,Z,Z,Z,Z,Z,Z,Z,Z,Z,Z,Z,Z,Z,Z,Z,Z,Z,Z] ?_
              refine tk_ (i := 6) (N := some 62) (v := ?_) (a' := ?_) #[Y,Y,Y,Y,Y,Y,Y,Z,Z,Z,Z,Z,Z,Z,Z,Z,Z,Z,Z,Z,Z,Z,Z,Z,Z,Z,Z,Z,Z,Z,Z,Z,Z,Z,Z,Z,Z,Z,Z,Z,Z,Z] ?_ hHeld ?_ ?_
              rotate_left
              ·
               rintro w' ⟨s0, s1⟩
               go_simp
               with_reducible rfl
              rotate_left
              ·
               simp only [Act.put, List.setIfInBounds_toArray, List.set_cons_zero, List.set_cons_succ, i64_w, i32_w]
               rfl
              refine pu_ (i := 7) (N := some 63) #[Y,Y,Y,Y,Y,Y,Y,Y,Z,Z,Z,Z,Z,Z,Z,Z,Z,Z,Z,Z,Z,Z,Z,Z,Z,Z,Z,Z,Z,Z,Z,Z,Z,Z,Z,Z,Z,Z,Z,Z,Z,Z] ?_
              refine pu_ (i := 8) (N := some 64) #[Y,Y,Y,Y,Y,Y,Y,Y,Y,Z,Z,Z,Z,Z,Z,Z,Z,Z,Z,Z,Z,Z,Z,Z,Z,Z,Z,Z,Z,Z,Z,Z,Z,Z,Z,Z,Z,Z,Z,Z,Z,Z] ?_
              refine pu_ (i := 9) (N := some 65) #[Y,Y,Y,Y,Y,Y,Y,Y,Y,Y,Z,Z,Z,Z,Z,Z,Z,Z,Z,Z,Z,Z,Z,Z,Z,Z,Z,Z,Z,Z,Z,Z,Z,Z,Z,Z,Z,Z,Z,Z,Z,Z] ?_
              refine pv_ (i := 10) (N := some 66) #[Y,Y,Y,Y,Y,Y,Y,Y,Y,Y,Y,Z,Z,Z,Z,Z,Z,Z,Z,Z,Z,Z,Z,Z,Z,Z,Z,Z,Z,Z,Z,Z,Z,Z,Z,Z,Z,Z,Z,Z,Z,Z] ?_
              refine pv_ (i := 11) (N := some 67) #[Y,Y,Y,Y,Y,Y,Y,Y,Y,Y,Y,Y,Z,Z,Z,Z,Z,Z,Z,Z,Z,Z,Z,Z,Z,Z,Z,Z,Z,Z,Z,Z,Z,Z,Z,Z,Z,Z,Z,Z,Z,Z] ?_
              refine pv_ (i := 12) (N := some 68) #[Y,Y,Y,Y,Y,Y,Y,Y,Y,Y,Y,Y,Y,Z,Z,Z,Z,Z,Z,Z,Z,Z,Z,Z,Z,Z,Z,Z,Z,Z,Z,Z,Z,Z,Z,Z,Z,Z,Z,Z,Z,Z] ?_
              refine pv_ (i := 13) (N := some 69) #[Y,Y,Y,Y,Y,Y,Y,Y,Y,Y,Y,Y,Y,Y,Z,Z,Z,Z,Z,Z,Z,Z,Z,Z,Z,Z,Z,Z,Z,Z,Z,Z,Z,Z,Z,Z,Z,Z,Z,Z,Z,Z] ?_
              refine pv_ (i := 14) (N := some 70) #[Y,Y,Y,Y,Y,Y,Y,Y,Y,Y,Y,Y,Y,Y,Y,Z,Z,Z,Z,Z,Z,Z,Z,Z,Z,Z,Z,Z,Z,Z,Z,Z,Z,Z,Z,Z,Z,Z,Z,Z,Z,Z] ?_
              refine pv_ (i := 15) (N := some 71) #[Y,Y,Y,Y,Y,Y,Y,Y,Y,Y,Y,Y,Y,Y,Y,Y,Z,Z,Z,Z,Z,Z,Z,Z,Z,Z,Z,Z,Z,Z,Z,Z,Z,Z,Z,Z,Z,Z,Z,Z,Z,Z] ?_
              refine pv_ (i := 16) (N := some 72) #[Y,Y,Y,Y,Y,Y,Y,Y,Y,Y,Y,Y,Y,Y,Y,Y,Y,Z,Z,Z,Z,Z,Z,Z,Z,Z,Z,Z,Z,Z,Z,Z,Z,Z,Z,Z,Z,Z,Z,Z,Z,Z] ?_
              refine pv_ (i := 17) (N := some 73) #[Y,Y,Y,Y,Y,Y,Y,Y,Y,Y,Y,Y,Y,Y,Y,Y,Y,Y,Z,Z,Z,Z,Z,Z,Z,Z,Z,Z,Z,Z,Z,Z,Z,Z,Z,Z,Z,Z,Z,Z,Z,Z] ?_
              refine pv_ (i := 18) (N := some 74) #[Y,Y,Y,Y,Y,Y,Y,Y,Y,Y,Y,Y,Y,Y,Y,Y,Y,Y,Y,Z,Z,Z,Z,Z,Z,Z,Z,Z,Z,Z,Z,Z,Z,Z,Z,Z,Z,Z,Z,Z,Z,Z] ?_
              refine pv_ (i := 19) (N := some 75) #[Y,Y,Y,Y,Y,Y,Y,Y,Y,Y,Y,Y,Y,Y,Y,Y,Y,Y,Y,Y,Z,Z,Z,Z,Z,Z,Z,Z,Z,Z,Z,Z,Z,Z,Z,Z,Z,Z,Z,Z,Z,Z] ?_
              refine pu_ (i := 20) (N := some 76) #[Y,Y,Y,Y,Y,Y,Y,Y,Y,Y,Y,Y,Y,Y,Y,Y,Y,Y,Y,Y,Y,Z,Z,Z,Z,Z,Z,Z,Z,Z,Z,Z,Z,Z,Z,Z,Z,Z,Z,Z,Z,Z] ?_
              refine pu_ (i := 21) (N := some 77) #[Y,Y,Y,Y,Y,Y,Y,Y,Y,Y,Y,Y,Y,Y,Y,Y,Y,Y,Y,Y,Y,Y,Z,Z,Z,Z,Z,Z,Z,Z,Z,Z,Z,Z,Z,Z,Z,Z,Z,Z,Z,Z] ?_
              refine pu_ (i := 22) (N := some 78) #[Y,Y,Y,Y,Y,Y,Y,Y,Y,Y,Y,Y,Y,Y,Y,Y,Y,Y,Y,Y,Y,Y,Y,Z,Z,Z,Z,Z,Z,Z,Z,Z,Z,Z,Z,Z,Z,Z,Z,Z,Z,Z] ?_
              refine tk_ (i := 23) (N := some 79) (v := ?_) (a' := ?_) #[Y,Y,Y,Y,Y,Y,Y,Y,Y,Y,Y,Y,Y,Y,Y,Y,Y,Y,Y,Y,Y,Y,Y,Y,Z,Z,Z,Z,Z,Z,Z,Z,Z,Z,Z,Z,Z,Z,Z,Z,Z,Z] ?_ hHeld ?_ ?_
              rotate_left
              ·
               rintro w' ⟨s0, s1⟩
               go_simp
               with_reducible rfl
              rotate_left
              ·
               simp only [Act.put, List.setIfInBounds_toArray, List.set_cons_zero, List.set_cons_succ, i64_w, i32_w]
               rfl
              refine pu_ (i := 24) (N := some 80) #[Y,Y,Y,Y,Y,Y,Y,Y,Y,Y,Y,Y,Y,Y,Y,Y,Y,Y,Y,Y,Y,Y,Y,Y,Y,Z,Z,Z,Z,Z,Z,Z,Z,Z,Z,Z,Z,Z,Z,Z,Z,Z] ?_
              refine pu_ (i := 25) (N := some 81) #[Y,Y,Y,Y,Y,Y,Y,Y,Y,Y,Y,Y,Y,Y,Y,Y,Y,Y,Y,Y,Y,Y,Y,Y,Y,Y,Z,Z,Z,Z,Z,Z,Z,Z,Z,Z,Z,Z,Z,Z,Z,Z] ?_
              refine pu_ (i := 26) (N := some 82) #[Y,Y,Y,Y,Y,Y,Y,Y,Y,Y,Y,Y,Y,Y,Y,Y,Y,Y,Y,Y,Y,Y,Y,Y,Y,Y,Y,Z,Z,Z,Z,Z,Z,Z,Z,Z,Z,Z,Z,Z,Z,Z] ?_
              refine pu_ (i := 27) (N := some 83) #[Y,Y,Y,Y,Y,Y,Y,Y,Y,Y,Y,Y,Y,Y,Y,Y,Y,Y,Y,Y,Y,Y,Y,Y,Y,Y,Y,Y,Z,Z,Z,Z,Z,Z,Z,Z,Z,Z,Z,Z,Z,Z] ?_
              refine pu_ (i := 29) (N := some 85) #[Y,Y,Y,Y,Y,Y,Y,Y,Y,Y,Y,Y,Y,Y,Y,Y,Y,Y,Y,Y,Y,Y,Y,Y,Y,Y,Y,Y,Z,Y,Z,Z,Z,Z,Z,Z,Z,Z,Z,Z,Z,Z] ?_
              refine tk_ (i := 28) (N := some 84) (v := ?_) (a' := ?_) #[Y,Y,Y,Y,Y,Y,Y,Y,Y,Y,Y,Y,Y,Y,Y,Y,Y,Y,Y,Y,Y,Y,Y,Y,Y,Y,Y,Y,Y,Y,Z,Z,Z,Z,Z,Z,Z,Z,Z,Z,Z,Z] ?_ hHeld ?_ ?_
              rotate_left
              ·
               rintro w' ⟨s0, s1⟩
               go_simp
               with_reducible rfl
              rotate_left
              ·
               simp only [Act.put, List.setIfInBounds_toArray, List.set_cons_zero, List.set_cons_succ, i64_w, i32_w]
               rfl
              refine pu_ (i := 30) (N := some 86) #[Y,Y,Y,Y,Y,Y,Y,Y,Y,Y,Y,Y,Y,Y,Y,Y,Y,Y,Y,Y,Y,Y,Y,Y,Y,Y,Y,Y,Y,Y,Y,Z,Z,Z,Z,Z,Z,Z,Z,Z,Z,Z] ?_
              refine pu_ (i := 31) (N := some 87) #[Y,Y,Y,Y,Y,Y,Y,Y,Y,Y,Y,Y,Y,Y,Y,Y,Y,Y,Y,Y,Y,Y,Y,Y,Y,Y,Y,Y,Y,Y,Y,Y,Z,Z,Z,Z,Z,Z,Z,Z,Z,Z] ?_
              refine pv_ (i := 32) (N := some 88) #[Y,Y,Y,Y,Y,Y,Y,Y,Y,Y,Y,Y,Y,Y,Y,Y,Y,Y,Y,Y,Y,Y,Y,Y,Y,Y,Y,Y,Y,Y,Y,Y,Y,Z,Z,Z,Z,Z,Z,Z,Z,Z] ?_
              refine pv_ (i := 33) (N := some 89) #[Y,Y,Y,Y,Y,Y,Y,Y,Y,Y,Y,Y,Y,Y,Y,Y,Y,Y,Y,Y,Y,Y,Y,Y,Y,Y,Y,Y,Y,Y,Y,Y,Y,Y,Z,Z,Z,Z,Z,Z,Z,Z] ?_
              refine pv_ (i := 34) (N := some 90) #[Y,Y,Y,Y,Y,Y,Y,Y,Y,Y,Y,Y,Y,Y,Y,Y,Y,Y,Y,Y,Y,Y,Y,Y,Y,Y,Y,Y,Y,Y,Y,Y,Y,Y,Y,Z,Z,Z,Z,Z,Z,Z] ?_
              refine pv_ (i := 35) (N := some 91) #[Y,Y,Y,Y,Y,Y,Y,Y,Y,Y,Y,Y,Y,Y,Y,Y,Y,Y,Y,Y,Y,Y,Y,Y,Y,Y,Y,Y,Y,Y,Y,Y,Y,Y,Y,Y,Z,Z,Z,Z,Z,Z] ?_
              refine pv_ (i := 36) (N := some 92) #[Y,Y,Y,Y,Y,Y,Y,Y,Y,Y,Y,Y,Y,Y,Y,Y,Y,Y,Y,Y,Y,Y,Y,Y,Y,Y,Y,Y,Y,Y,Y,Y,Y,Y,Y,Y,Y,Z,Z,Z,Z,Z] ?_
              refine pv_ (i := 37) (N := some 93) #[Y,Y,Y,Y,Y,Y,Y,Y,Y,Y,Y,Y,Y,Y,Y,Y,Y,Y,Y,Y,Y,Y,Y,Y,Y,Y,Y,Y,Y,Y,Y,Y,Y,Y,Y,Y,Y,Y,Z,Z,Z,Z] ?_
              refine pv_ (i := 38) (N := some 94) #[Y,Y,Y,Y,Y,Y,Y,Y,Y,Y,Y,Y,Y,Y,Y,Y,Y,Y,Y,Y,Y,Y,Y,Y,Y,Y,Y,Y,Y,Y,Y,Y,Y,Y,Y,Y,Y,Y,Y,Z,Z,Z] ?_
              refine pv_ (i := 39) (N := some 95) #[Y,Y,Y,Y,Y,Y,Y,Y,Y,Y,Y,Y,Y,Y,Y,Y,Y,Y,Y,Y,Y,Y,Y,Y,Y,Y,Y,Y,Y,Y,Y,Y,Y,Y,Y,Y,Y,Y,Y,Y,Z,Z] ?_
              refine pu_ (i := 40) (N := some 96) #[Y,Y,Y,Y,Y,Y,Y,Y,Y,Y,Y,Y,Y,Y,Y,Y,Y,Y,Y,Y,Y,Y,Y,Y,Y,Y,Y,Y,Y,Y,Y,Y,Y,Y,Y,Y,Y,Y,Y,Y,Y,Z] ?_
              refine pu_ (i := 41) (N := some 97) #[Y,Y,Y,Y,Y,Y,Y,Y,Y,Y,Y,Y,Y,Y,Y,Y,Y,Y,Y,Y,Y,Y,Y,Y,Y,Y,Y,Y,Y,Y,Y,Y,Y,Y,Y,Y,Y,Y,Y,Y,Y,Y] ?_
              refine done_ (done_of HT_.out (by kernel_rfl)) ?_
              try go_wp2
              go_meet
              case rel => exact ⟨_, (false), fs_, H', ⟨by have := HJ2.out; have := HK2.out; first | omega | exact Nat.le_refl _⟩, ⟨Ro_ HO_5.out⟩, ⟨Ko_ BK290.out⟩, ⟨Bo_ HB.out GE290.out⟩⟩
             rw [if_pos c56] at H
             have c56b0 : (t288 == a1) = true := beq_iff_eq.mpr c56
             have c56b1 : (t288 != a1) = false := bne_eq_false_iff_eq.mpr c56
             clear c56
             replace H := Option.bind_eq_some_iff.mp H
             obtain ⟨t296, A570, H⟩ := H
             try dsimp only at H
             have A57 := Ad_.mk A570
             clear A570
             have H' := Ad_.mk H
             clear H
             try go_wp2
             have n0_ : Ad_ (Kd.R k59 59 ((w31.setCell ⟨gb290, 0, none⟩ (.int .i64 t288)).setCell ⟨gb290, 1, none⟩ (.int .i64 t289)) w.heap.size (fun k_ => k_ ≠ gb290) u5 x5_2) := ⟨by (with_reducible repeat (first | apply Kd.R_alloc | apply Kd.R_drewN | apply Kd.R_drew)); exact Kd.R_mono (Kd.R_far (p := ⟨gb290, 1, none⟩) (Kd.R_far (p := ⟨gb290, 0, none⟩) (Kd.R_mono HO_5.out (fun k_ hk => (⟨hk, hk.2⟩ : _ ∧ k_ ≠ gb290))) (fun _ hk => hk.2) (.int .i64 t288)) (fun _ hk => hk.2) (.int .i64 t289)) (fun _ hk => hk.1.2)⟩
             have n1_ : Ad_ (((w31.setCell ⟨gb290, 0, none⟩ (.int .i64 t288)).setCell ⟨gb290, 1, none⟩ (.int .i64 t289)).heap[gb290]? = some (.cells #[.int .i64 t288, .int .i64 t289] 59 (0, 0))) := ⟨by (with_reducible repeat (first | refine kN_ ?_ _ | refine k1_ ?_ | refine kA_ ?_ _)); refine blk_put (cs := #[.int .i64 t288, .int .i64 0]) ?_ 1 _ rfl; (with_reducible repeat (first | refine kN_ ?_ _ | refine k1_ ?_ | refine kA_ ?_ _)); refine blk_put (cs := #[.int .i64 0, .int .i64 0]) ?_ 0 _ rfl; (with_reducible repeat (first | refine kN_ ?_ _ | refine k1_ ?_ | refine kA_ ?_ _)); exact BK290.out⟩
             have n2_ : Ad_ (Below w.heap.size w ((w31.setCell ⟨gb290, 0, none⟩ (.int .i64 t288)).setCell ⟨gb290, 1, none⟩ (.int .i64 t289))) := ⟨Bo_ HB.out GE290.out⟩
             (try clear HO_5)
             (try clear BK290)
             (try clear HB)
             generalize ((w31.setCell ⟨gb290, 0, none⟩ (.int .i64 t288)).setCell ⟨gb290, 1, none⟩ (.int .i64 t289)) = w58 at n0_ n1_ n2_ ⊢
             have HO_5 := n0_
             have BK290 := n1_
             have HB := n2_
             clear n0_ n1_ n2_
             replace HO_5 := Ad_.mk (Kd.R_drew HO_5.out)
             replace BK290 := Ad_.mk (k1_ BK290.out)
             replace HB := Ad_.mk (b1_ HB.out)
             have p295 : 0 ≤ (a1 : Int) := od_
             have q295 : a1 < (l0.length : Int) := od_
             obtain ⟨ad295, e295, hx295_0, hx295_1, hx295_2, hx295_3, hx295_4, hx295_5, hx295_6⟩ := at_T55 HR0.out a1 p295 q295
             have hw295_6 := hx295_6
             have hw295_5 := hx295_5
             have hw295_4 := hx295_4
             have hw295_3 := hx295_3
             have hw295_2 := hx295_2
             have hw295_1 := hx295_1
             have hw295_0 := hx295_0
             obtain rfl : ad284 = ad295 := (by injection e295)
             replace hx295_0 := pB_ HB.out hx295_0
             replace hx295_1 := pB_ HB.out hx295_1
             replace hx295_2 := pB_ HB.out hx295_2
             replace hx295_3 := pB_ HB.out hx295_3
             replace hx295_4 := pB_ HB.out hx295_4
             replace hx295_5 := pB_ HB.out hx295_5
             replace hx295_6 := pB_ HB.out hx295_6
             replace p295 := eq_true p295
             replace q295 := eq_true q295
             refine start_ (n := 42) (S := fun w' => w'.cell? ⟨gb290, 0, none⟩ = some (.int .i64 t288) ∧ w'.cell? ⟨gb290, 1, none⟩ = some (.int .i64 t289) ∧ w'.cell? (ad284.add ((a1).toNat * 7)) = some (.int .i64 ((rd_T55 l0 a1).f0)) ∧ w'.cell? ⟨(ad284.add ((a1).toNat * 7)).block, (ad284.add ((a1).toNat * 7)).off + 1, none⟩ = some (.int .i64 ((rd_T55 l0 a1).f1)) ∧ w'.cell? ⟨(ad284.add ((a1).toNat * 7)).block, (ad284.add ((a1).toNat * 7)).off + 2, none⟩ = some (.int .i64 ((rd_T55 l0 a1).f2)) ∧ w'.cell? ⟨(ad284.add ((a1).toNat * 7)).block, (ad284.add ((a1).toNat * 7)).off + 3, none⟩ = some (.int .i64 ((rd_T55 l0 a1).f3)) ∧ w'.cell? ⟨(ad284.add ((a1).toNat * 7)).block, (ad284.add ((a1).toNat * 7)).off + 4, none⟩ = some (.int .i64 ((rd_T55 l0 a1).f4)) ∧ w'.cell? ⟨(ad284.add ((a1).toNat * 7)).block, (ad284.add ((a1).toNat * 7)).off + 5, none⟩ = some (.string ((rd_T55 l0 a1).f5)) ∧ w'.cell? ⟨(ad284.add ((a1).toNat * 7)).block, (ad284.add ((a1).toNat * 7)).off + 6, none⟩ = some (.string ((rd_T55 l0 a1).f6))) (ds := []) #[Z,Z,Z,Z,Z,Z,Z,Z,Z,Z,Z,Z,Z,Z,Z,Z,Z,Z,Z,Z,Z,Z,Z,Z,Z,Z,Z,Z,Z,Z,Z,Z,Z,Z,Z,Z,Z,Z,Z,Z,Z,Z] (by kernel_rfl) rfl rfl ⟨(kC_ BK290.out 0).trans rfl, (kC_ BK290.out 1).trans rfl, ((HB.out.cell (World.block_lt_of_cell? w _ hw295_0)).trans hw295_0), ((HB.out.cell (World.block_lt_of_cell? w _ hw295_1)).trans hw295_1), ((HB.out.cell (World.block_lt_of_cell? w _ hw295_2)).trans hw295_2), ((HB.out.cell (World.block_lt_of_cell? w _ hw295_3)).trans hw295_3), ((HB.out.cell (World.block_lt_of_cell? w _ hw295_4)).trans hw295_4), ((HB.out.cell (World.block_lt_of_cell? w _ hw295_5)).trans hw295_5), ((HB.out.cell (World.block_lt_of_cell? w _ hw295_6)).trans hw295_6)⟩ (fun hHeld => ?_); refine with_tabW spec_OuterOf.tab9 spec_OuterOf.bits9 (fun HT_ HW_ => ?_)
             generalize w58.drew = w59 at HO_5 BK290 HB hx295_0 hx295_1 hx295_2 hx295_3 hx295_4 hx295_5 hx295_6 hHeld ⊢
             refine pu_ (i := 0) (N := some 56) #[Y,Z,Z,Z,Z,Z,Z,Z,Z,Z,Z,Z,Z,Z,Z,Z,Z,Z,Z,Z,Z,Z,Z,Z,Z,Z,Z,Z,Z,Z,Z,Z,Z,Z,Z,Z,Z,Z,Z,Z,Z,Z] ?_
             refine pu_ (i := 2) (N := some 58) #[Y,Z,Y,Z,Z,Z,Z,Z,Z,Z,Z,Z,Z,Z,Z,Z,Z,Z,Z,Z,Z,Z,Z,Z,Z,Z,Z,Z,Z,Z,Z,Z,Z,Z,Z,Z,Z,Z,Z,Z,Z,Z] ?_
             refine tk_ (i := 1) (N := some 57) (v := ?_) (a' := ?_) #[Y,Y,Y,Z,Z,Z,Z,Z,Z,Z,Z,Z,Z,Z,Z,Z,Z,Z,Z,Z,Z,Z,Z,Z,Z,Z,Z,Z,Z,Z,Z,Z,Z,Z,Z,Z,Z,Z,Z,Z,Z,Z] ?_ hHeld ?_ ?_
             rotate_left
             ·
              rintro w' ⟨s0, s1, s2, s3, s4, s5, s6, s7, s8⟩
              go_simp
              with_reducible rfl
             rotate_left
             ·
              simp only [Act.put, List.setIfInBounds_toArray, List.set_cons_zero, List.set_cons_succ, i64_w, i32_w]
              rfl
             refine pu_ (i := 3) (N := some 59) #[Y,Y,Y,Y,Z,Z,Z,Z,Z,Z,Z,Z,Z,Z,Z,Z,Z,Z,Z,Z,Z,Z,Z,Z,Z,Z,Z,Z,Z,Z,Z,Z,Z,Z,Z,Z,Z,Z,Z,Z,Z,Z] ?_
             refine pu_ (i := 4) (N := some 60) #[Y,Y,Y,Y,Y,Z,Z,Z,Z,Z,Z,Z,Z,Z,Z,Z,Z,Z,Z,Z,Z,Z,Z,Z,Z,Z,Z,Z,Z,Z,Z,Z,Z,Z,Z,Z,Z,Z,Z,Z,Z,Z] ?_
             refine pu_ (i := 5) (N := some 61) #[Y,Y,Y,Y,Y,Y,Z,Z,Z,Z,Z,Z,Z,Z,Z,Z,Z,Z,Z,Z,Z,Z,Z,Z,Z,Z,Z,Z,Z,Z,Z,Z,Z,Z,Z,Z,Z,Z,Z,Z,Z,Z] ?_
             refine tk_ (i := 6) (N := some 62) (v := ?_) (a' := ?_) #[Y,Y,Y,Y,Y,Y,Y,Z,Z,Z,Z,Z,Z,Z,Z,Z,Z,Z,Z,Z,Z,Z,Z,Z,Z,Z,Z,Z,Z,Z,Z,Z,Z,Z,Z,Z,Z,Z,Z,Z,Z,Z] ?_ hHeld ?_ ?_
             rotate_left
             ·
              rintro w' ⟨s0, s1, s2, s3, s4, s5, s6, s7, s8⟩
              go_simp
              with_reducible rfl
             rotate_left
             ·
              simp only [Act.put, List.setIfInBounds_toArray, List.set_cons_zero, List.set_cons_succ, i64_w, i32_w]
              rfl
             refine pu_ (i := 7) (N := some 63) #[Y,Y,Y,Y,Y,Y,Y,Y,Z,Z,Z,Z,Z,Z,Z,Z,Z,Z,Z,Z,Z,Z,Z,Z,Z,Z,Z,Z,Z,Z,Z,Z,Z,Z,Z,Z,Z,Z,Z,Z,Z,Z] ?_
             refine pu_ (i := 8) (N := some 64) #[Y,Y,Y,Y,Y,Y,Y,Y,Y,Z,Z,Z,Z,Z,Z,Z,Z,Z,Z,Z,Z,Z,Z,Z,Z,Z,Z,Z,Z,Z,Z,Z,Z,Z,Z,Z,Z,Z,Z,Z,Z,Z] ?_
             refine pu_ (i := 9) (N := some 65) #[Y,Y,Y,Y,Y,Y,Y,Y,Y,Y,Z,Z,Z,Z,Z,Z,Z,Z,Z,Z,Z,Z,Z,Z,Z,Z,Z,Z,Z,Z,Z,Z,Z,Z,Z,Z,Z,Z,Z,Z,Z,Z] ?_
             refine pv_ (i := 10) (N := some 66) #[Y,Y,Y,Y,Y,Y,Y,Y,Y,Y,Y,Z,Z,Z,Z,Z,Z,Z,Z,Z,Z,Z,Z,Z,Z,Z,Z,Z,Z,Z,Z,Z,Z,Z,Z,Z,Z,Z,Z,Z,Z,Z] ?_
             refine pv_ (i := 11) (N := some 67) #[Y,Y,Y,Y,Y,Y,Y,Y,Y,Y,Y,Y,Z,Z,Z,Z,Z,Z,Z,Z,Z,Z,Z,Z,Z,Z,Z,Z,Z,Z,Z,Z,Z,Z,Z,Z,Z,Z,Z,Z,Z,Z] ?_
             refine pv_ (i := 12) (N := some 68) #[Y,Y,Y,Y,Y,Y,Y,Y,Y,Y,Y,Y,Y,Z,Z,Z,Z,Z,Z,Z,Z,Z,Z,Z,Z,Z,Z,Z,Z,Z,Z,Z,Z,Z,Z,Z,Z,Z,Z,Z,Z,Z] ?_
             refine pv_ (i := 13) (N := some 69) #[Y,Y,Y,Y,Y,Y,Y,Y,Y,Y,Y,Y,Y,Y,Z,Z,Z,Z,Z,Z,Z,Z,Z,Z,Z,Z,Z,Z,Z,Z,Z,Z,Z,Z,Z,Z,Z,Z,Z,Z,Z,Z] ?_
             refine pv_ (i := 14) (N := some 70) #[Y,Y,Y,Y,Y,Y,Y,Y,Y,Y,Y,Y,Y,Y,Y,Z,Z,Z,Z,Z,Z,Z,Z,Z,Z,Z,Z,Z,Z,Z,Z,Z,Z,Z,Z,Z,Z,Z,Z,Z,Z,Z] ?_
             refine pv_ (i := 15) (N := some 71) #[Y,Y,Y,Y,Y,Y,Y,Y,Y,Y,Y,Y,Y,Y,Y,Y,Z,Z,Z,Z,Z,Z,Z,Z,Z,Z,Z,Z,Z,Z,Z,Z,Z,Z,Z,Z,Z,Z,Z,Z,Z,Z] ?_
             refine pv_ (i := 16) (N := some 72) #[Y,Y,Y,Y,Y,Y,Y,Y,Y,Y,Y,Y,Y,Y,Y,Y,Y,Z,Z,Z,Z,Z,Z,Z,Z,Z,Z,Z,Z,Z,Z,Z,Z,Z,Z,Z,Z,Z,Z,Z,Z,Z] ?_
             refine pv_ (i := 17) (N := some 73) #[Y,Y,Y,Y,Y,Y,Y,Y,Y,Y,Y,Y,Y,Y,Y,Y,Y,Y,Z,Z,Z,Z,Z,Z,Z,Z,Z,Z,Z,Z,Z,Z,Z,Z,Z,Z,Z,Z,Z,Z,Z,Z] ?_
             refine pv_ (i := 18) (N := some 74) #[Y,Y,Y,Y,Y,Y,Y,Y,Y,Y,Y,Y,Y,Y,Y,Y,Y,Y,Y,Z,Z,Z,Z,Z,Z,Z,Z,Z,Z,Z,Z,Z,Z,Z,Z,Z,Z,Z,Z,Z,Z,Z] ?_
             refine pv_ (i := 19) (N := some 75) #[Y,Y,Y,Y,Y,Y,Y,Y,Y,Y,Y,Y,Y,Y,Y,Y,Y,Y,Y,Y,Z,Z,Z,Z,Z,Z,Z,Z,Z,Z,Z,Z,Z,Z,Z,Z,Z,Z,Z,Z,Z,Z] ?_
             refine pu_ (i := 20) (N := some 76) #[Y,Y,Y,Y,Y,Y,Y,Y,Y,Y,Y,Y,Y,Y,Y,Y,Y,Y,Y,Y,Y,Z,Z,Z,Z,Z,Z,Z,Z,Z,Z,Z,Z,Z,Z,Z,Z,Z,Z,Z,Z,Z] ?_
             refine pu_ (i := 21) (N := some 77) #[Y,Y,Y,Y,Y,Y,Y,Y,Y,Y,Y,Y,Y,Y,Y,Y,Y,Y,Y,Y,Y,Y,Z,Z,Z,Z,Z,Z,Z,Z,Z,Z,Z,Z,Z,Z,Z,Z,Z,Z,Z,Z] ?_
             refine pu_ (i := 22) (N := some 78) #[Y,Y,Y,Y,Y,Y,Y,Y,Y,Y,Y,Y,Y,Y,Y,Y,Y,Y,Y,Y,Y,Y,Y,Z,Z,Z,Z,Z,Z,Z,Z,Z,Z,Z,Z,Z,Z,Z,Z,Z,Z,Z] ?_
             refine tk_ (i := 23) (N := some 79) (v := ?_) (a' := ?_) #[Y,Y,Y,Y,Y,Y,Y,Y,Y,Y,Y,Y,Y,Y,Y,Y,Y,Y,Y,Y,Y,Y,Y,Y,Z,Z,Z,Z,Z,Z,Z,Z,Z,Z,Z,Z,Z,Z,Z,Z,Z,Z] ?_ hHeld ?_ ?_
             rotate_left
             ·
              rintro w' ⟨s0, s1, s2, s3, s4, s5, s6, s7, s8⟩
              go_simp
              with_reducible rfl
             rotate_left
             ·
              simp only [Act.put, List.setIfInBounds_toArray, List.set_cons_zero, List.set_cons_succ, i64_w, i32_w]
              rfl
             refine pu_ (i := 24) (N := some 80) #[Y,Y,Y,Y,Y,Y,Y,Y,Y,Y,Y,Y,Y,Y,Y,Y,Y,Y,Y,Y,Y,Y,Y,Y,Y,Z,Z,Z,Z,Z,Z,Z,Z,Z,Z,Z,Z,Z,Z,Z,Z,Z] ?_
             refine pu_ (i := 25) (N := some 81) #[Y,Y,Y,Y,Y,Y,Y,Y,Y,Y,Y,Y,Y,Y,Y,Y,Y,Y,Y,Y,Y,Y,Y,Y,Y,Y,Z,Z,Z,Z,Z,Z,Z,Z,Z,Z,Z,Z,Z,Z,Z,Z] ?_
             refine pu_ (i := 26) (N := some 82) #[Y,Y,Y,Y,Y,Y,Y,Y,Y,Y,Y,Y,Y,Y,Y,Y,Y,Y,Y,Y,Y,Y,Y,Y,Y,Y,Y,Z,Z,Z,Z,Z,Z,Z,Z,Z,Z,Z,Z,Z,Z,Z] ?_
             refine pu_ (i := 27) (N := some 83) #[Y,Y,Y,Y,Y,Y,Y,Y,Y,Y,Y,Y,Y,Y,Y,Y,Y,Y,Y,Y,Y,Y,Y,Y,Y,Y,Y,Y,Z,Z,Z,Z,Z,Z,Z,Z,Z,Z,Z,Z,Z,Z] ?_
             refine pu_ (i := 29) (N := some 85) #[Y,Y,Y,Y,Y,Y,Y,Y,Y,Y,Y,Y,Y,Y,Y,Y,Y,Y,Y,Y,Y,Y,Y,Y,Y,Y,Y,Y,Z,Y,Z,Z,Z,Z,Z,Z,Z,Z,Z,Z,Z,Z] ?_
             refine tk_ (i := 28) (N := some 84) (v := ?_) (a' := ?_) #[Y,Y,Y,Y,Y,Y,Y,Y,Y,Y,Y,Y,Y,Y,Y,Y,Y,Y,Y,Y,Y,Y,Y,Y,Y,Y,Y,Y,Y,Y,Z,Z,Z,Z,Z,Z,Z,Z,Z,Z,Z,Z] ?_ hHeld ?_ ?_
             rotate_left
             ·
              rintro w' ⟨s0, s1, s2, s3, s4, s5, s6, s7, s8⟩
              go_simp
              with_reducible rfl
             rotate_left
             ·
              simp only [Act.put, List.setIfInBounds_toArray, List.set_cons_zero, List.set_cons_succ, i64_w, i32_w]
              rfl
             refine pu_ (i := 30) (N := some 86) #[Y,Y,Y,Y,Y,Y,Y,Y,Y,Y,Y,Y,Y,Y,Y,Y,Y,Y,Y,Y,Y,Y,Y,Y,Y,Y,Y,Y,Y,Y,Y,Z,Z,Z,Z,Z,Z,Z,Z,Z,Z,Z] ?_
             refine pu_ (i := 31) (N := some 87) #[Y,Y,Y,Y,Y,Y,Y,Y,Y,Y,Y,Y,Y,Y,Y,Y,Y,Y,Y,Y,Y,Y,Y,Y,Y,Y,Y,Y,Y,Y,Y,Y,Z,Z,Z,Z,Z,Z,Z,Z,Z,Z] ?_
             refine pu_ (i := 32) (N := some 88) #[Y,Y,Y,Y,Y,Y,Y,Y,Y,Y,Y,Y,Y,Y,Y,Y,Y,Y,Y,Y,Y,Y,Y,Y,Y,Y,Y,Y,Y,Y,Y,Y,Y,Z,Z,Z,Z,Z,Z,Z,Z,Z] ?_
             refine pu_ (i := 34) (N := some 90) #[Y,Y,Y,Y,Y,Y,Y,Y,Y,Y,Y,Y,Y,Y,Y,Y,Y,Y,Y,Y,Y,Y,Y,Y,Y,Y,Y,Y,Y,Y,Y,Y,Y,Z,Y,Z,Z,Z,Z,Z,Z,Z] ?_
             refine pu_ (i := 35) (N := some 91) #[Y,Y,Y,Y,Y,Y,Y,Y,Y,Y,Y,Y,Y,Y,Y,Y,Y,Y,Y,Y,Y,Y,Y,Y,Y,Y,Y,Y,Y,Y,Y,Y,Y,Z,Y,Y,Z,Z,Z,Z,Z,Z] ?_
             refine pu_ (i := 36) (N := some 92) #[Y,Y,Y,Y,Y,Y,Y,Y,Y,Y,Y,Y,Y,Y,Y,Y,Y,Y,Y,Y,Y,Y,Y,Y,Y,Y,Y,Y,Y,Y,Y,Y,Y,Z,Y,Y,Y,Z,Z,Z,Z,Z] ?_
             refine tk_ (i := 33) (N := some 89) (v := ?_) (a' := ?_) #[Y,Y,Y,Y,Y,Y,Y,Y,Y,Y,Y,Y,Y,Y,Y,Y,Y,Y,Y,Y,Y,Y,Y,Y,Y,Y,Y,Y,Y,Y,Y,Y,Y,Y,Y,Y,Y,Z,Z,Z,Z,Z] ?_ hHeld ?_ ?_
             rotate_left
             ·
              rintro w' ⟨s0, s1, s2, s3, s4, s5, s6, s7, s8⟩
              go_simp
              with_reducible rfl
             rotate_left
             ·
              simp only [Act.put, List.setIfInBounds_toArray, List.set_cons_zero, List.set_cons_succ, i64_w, i32_w]
              rfl
             refine tk_ (i := 37) (N := some 93) (v := ?_) (a' := ?_) #[Y,Y,Y,Y,Y,Y,Y,Y,Y,Y,Y,Y,Y,Y,Y,Y,Y,Y,Y,Y,Y,Y,Y,Y,Y,Y,Y,Y,Y,Y,Y,Y,Y,Y,Y,Y,Y,Y,Z,Z,Z,Z] ?_ hHeld ?_ ?_
             rotate_left
             ·
              rintro w' ⟨s0, s1, s2, s3, s4, s5, s6, s7, s8⟩
              go_simp
              with_reducible rfl
             rotate_left
             ·
              simp only [Act.put, List.setIfInBounds_toArray, List.set_cons_zero, List.set_cons_succ, i64_w, i32_w]
              rfl
             refine one_ (i := 38) (N := some 94) #[Y,Y,Y,Y,Y,Y,Y,Y,Y,Y,Y,Y,Y,Y,Y,Y,Y,Y,Y,Y,Y,Y,Y,Y,Y,Y,Y,Y,Y,Y,Y,Y,Y,Y,Y,Y,Y,Y,Y,Z,Z,Z] rfl rfl (one_of HT_.out (by kernel_rfl)) (by decide) (fun K hK => ?_)
             refine goes_ Tryd.func84 (by kernel_rfl) rfl #[.agg #[.int .i64 ((rd_T55 l0 a1).f0), .int .i64 ((rd_T55 l0 a1).f1), .int .i64 ((rd_T55 l0 a1).f2), .int .i64 ((rd_T55 l0 a1).f3), .int .i64 ((rd_T55 l0 a1).f4), .string ((rd_T55 l0 a1).f5), .string ((rd_T55 l0 a1).f6)]] (by rfl) rfl rfl (by (try simp only [List.map_toArray, List.map_cons, List.map_nil]); first | done | rfl | (simp only [List.length_drop, List.length_take]; rfl)) ?_
             with_reducible refine (spec_l16Param.calls ((rd_T55 l0 a1).f0) ((rd_T55 l0 a1).f1) ((rd_T55 l0 a1).f2) ((rd_T55 l0 a1).f3) ((rd_T55 l0 a1).f4) ((rd_T55 l0 a1).f5) ((rd_T55 l0 a1).f6) t296 _ A57.out).mono ?_
             rintro e w60 ⟨rfl, hb⟩
             refine ⟨_, rfl, ?_⟩
             replace HO_5 := Ad_.mk (Rb_ HO_5.out hb)
             replace BK290 := Ad_.mk (blk_below (g := gb290) (o := .cells #[.int .i64 t288, .int .i64 t289] 59 (0, 0)) (Ko_ BK290.out) hb)
             replace HB := Ad_.mk (bP_ (Bo_ HB.out GE290.out) hb)
             (try clear hb)
             (try clear hb2)
             (try clear hk)
             (try clear hi)
             refine hK.out _ _ ⟨(kC_ BK290.out 0).trans rfl, (kC_ BK290.out 1).trans rfl, ((HB.out.cell (World.block_lt_of_cell? w _ hw295_0)).trans hw295_0), ((HB.out.cell (World.block_lt_of_cell? w _ hw295_1)).trans hw295_1), ((HB.out.cell (World.block_lt_of_cell? w _ hw295_2)).trans hw295_2), ((HB.out.cell (World.block_lt_of_cell? w _ hw295_3)).trans hw295_3), ((HB.out.cell (World.block_lt_of_cell? w _ hw295_4)).trans hw295_4), ((HB.out.cell (World.block_lt_of_cell? w _ hw295_5)).trans hw295_5), ((HB.out.cell (World.block_lt_of_cell? w _ hw295_6)).trans hw295_6)⟩ (fun hHeld => ?_)
             clear hK K
             refine norm_ (a' := ?_) ?_ ?_
             rotate_left
             ·
              show Act.put _ (some 94) _ = _
              simp only [Act.put, List.setIfInBounds_toArray, List.set_cons_zero, List.set_cons_succ, i64_w, i32_w]
              rfl
             refine pu_ (i := 39) (N := some 95) #[Y,Y,Y,Y,Y,Y,Y,Y,Y,Y,Y,Y,Y,Y,Y,Y,Y,Y,Y,Y,Y,Y,Y,Y,Y,Y,Y,Y,Y,Y,Y,Y,Y,Y,Y,Y,Y,Y,Y,Y,Z,Z] ?_
             refine pu_ (i := 40) (N := some 96) #[Y,Y,Y,Y,Y,Y,Y,Y,Y,Y,Y,Y,Y,Y,Y,Y,Y,Y,Y,Y,Y,Y,Y,Y,Y,Y,Y,Y,Y,Y,Y,Y,Y,Y,Y,Y,Y,Y,Y,Y,Y,Z] ?_
             refine pu_ (i := 41) (N := some 97) #[Y,Y,Y,Y,Y,Y,Y,Y,Y,Y,Y,Y,Y,Y,Y,Y,Y,Y,Y,Y,Y,Y,Y,Y,Y,Y,Y,Y,Y,Y,Y,Y,Y,Y,Y,Y,Y,Y,Y,Y,Y,Y] ?_
             refine done_ (done_of HT_.out (by kernel_rfl)) ?_
             try go_wp2
             go_meet
             case rel => exact ⟨_, ((t289 == t296)), fs_, H', ⟨by have := HJ2.out; have := HK2.out; first | omega | exact Nat.le_refl _⟩, ⟨Ro_ HO_5.out⟩, ⟨Ko_ BK290.out⟩, ⟨Bo_ HB.out GE290.out⟩⟩
            rw [if_pos c34] at H
            have c34b0 := decide_eq_true c34
            clear c34
            replace H := Option.bind_eq_some_iff.mp H
            obtain ⟨t292, A350, H⟩ := H
            try dsimp only at H
            have A35 := Ad_.mk A350
            clear A350
            by_cases c36 : t288 ≥ t292
            ·
             rw [if_pos c36] at H
             have c36b0 := decide_eq_true c36
             clear c36
             have H' := Ad_.mk H
             clear H
             try go_wp2
             have n0_ : Ad_ (Kd.R k59 59 ((w31.setCell ⟨gb290, 0, none⟩ (.int .i64 t288)).setCell ⟨gb290, 1, none⟩ (.int .i64 t289)) w.heap.size (fun k_ => k_ ≠ gb290) u5 x5_2) := ⟨by (with_reducible repeat (first | apply Kd.R_alloc | apply Kd.R_drewN | apply Kd.R_drew)); exact Kd.R_mono (Kd.R_far (p := ⟨gb290, 1, none⟩) (Kd.R_far (p := ⟨gb290, 0, none⟩) (Kd.R_mono HO_5.out (fun k_ hk => (⟨hk, hk.2⟩ : _ ∧ k_ ≠ gb290))) (fun _ hk => hk.2) (.int .i64 t288)) (fun _ hk => hk.2) (.int .i64 t289)) (fun _ hk => hk.1.2)⟩
             have n1_ : Ad_ (((w31.setCell ⟨gb290, 0, none⟩ (.int .i64 t288)).setCell ⟨gb290, 1, none⟩ (.int .i64 t289)).heap[gb290]? = some (.cells #[.int .i64 t288, .int .i64 t289] 59 (0, 0))) := ⟨by (with_reducible repeat (first | refine kN_ ?_ _ | refine k1_ ?_ | refine kA_ ?_ _)); refine blk_put (cs := #[.int .i64 t288, .int .i64 0]) ?_ 1 _ rfl; (with_reducible repeat (first | refine kN_ ?_ _ | refine k1_ ?_ | refine kA_ ?_ _)); refine blk_put (cs := #[.int .i64 0, .int .i64 0]) ?_ 0 _ rfl; (with_reducible repeat (first | refine kN_ ?_ _ | refine k1_ ?_ | refine kA_ ?_ _)); exact BK290.out⟩
             have n2_ : Ad_ (Below w.heap.size w ((w31.setCell ⟨gb290, 0, none⟩ (.int .i64 t288)).setCell ⟨gb290, 1, none⟩ (.int .i64 t289))) := ⟨Bo_ HB.out GE290.out⟩
             (try clear HO_5)
             (try clear BK290)
             (try clear HB)
             generalize ((w31.setCell ⟨gb290, 0, none⟩ (.int .i64 t288)).setCell ⟨gb290, 1, none⟩ (.int .i64 t289)) = w37 at n0_ n1_ n2_ ⊢
             have HO_5 := n0_
             have BK290 := n1_
             have HB := n2_
             clear n0_ n1_ n2_
             replace HO_5 := Ad_.mk (Kd.R_drew HO_5.out)
             replace BK290 := Ad_.mk (k1_ BK290.out)
             replace HB := Ad_.mk (b1_ HB.out)
             have p291 : 0 ≤ (a1 : Int) := od_
             have q291 : a1 < (l0.length : Int) := od_
             obtain ⟨ad291, e291, hx291_0, hx291_1, hx291_2, hx291_3, hx291_4, hx291_5, hx291_6⟩ := at_T55 HR0.out a1 p291 q291
             have hw291_6 := hx291_6
             have hw291_5 := hx291_5
             have hw291_4 := hx291_4
             have hw291_3 := hx291_3
             have hw291_2 := hx291_2
             have hw291_1 := hx291_1
             have hw291_0 := hx291_0
             obtain rfl : ad284 = ad291 := (by injection e291)
             replace hx291_0 := pB_ HB.out hx291_0
             replace hx291_1 := pB_ HB.out hx291_1
             replace hx291_2 := pB_ HB.out hx291_2
             replace hx291_3 := pB_ HB.out hx291_3
             replace hx291_4 := pB_ HB.out hx291_4
             replace hx291_5 := pB_ HB.out hx291_5
             replace hx291_6 := pB_ HB.out hx291_6
             replace p291 := eq_true p291
             replace q291 := eq_true q291
             refine start_ (n := 42) (S := fun w' => w'.cell? ⟨gb290, 0, none⟩ = some (.int .i64 t288) ∧ w'.cell? ⟨gb290, 1, none⟩ = some (.int .i64 t289) ∧ w'.cell? (ad284.add ((a1).toNat * 7)) = some (.int .i64 ((rd_T55 l0 a1).f0)) ∧ w'.cell? ⟨(ad284.add ((a1).toNat * 7)).block, (ad284.add ((a1).toNat * 7)).off + 1, none⟩ = some (.int .i64 ((rd_T55 l0 a1).f1)) ∧ w'.cell? ⟨(ad284.add ((a1).toNat * 7)).block, (ad284.add ((a1).toNat * 7)).off + 2, none⟩ = some (.int .i64 ((rd_T55 l0 a1).f2)) ∧ w'.cell? ⟨(ad284.add ((a1).toNat * 7)).block, (ad284.add ((a1).toNat * 7)).off + 3, none⟩ = some (.int .i64 ((rd_T55 l0 a1).f3)) ∧ w'.cell? ⟨(ad284.add ((a1).toNat * 7)).block, (ad284.add ((a1).toNat * 7)).off + 4, none⟩ = some (.int .i64 ((rd_T55 l0 a1).f4)) ∧ w'.cell? ⟨(ad284.add ((a1).toNat * 7)).block, (ad284.add ((a1).toNat * 7)).off + 5, none⟩ = some (.string ((rd_T55 l0 a1).f5)) ∧ w'.cell? ⟨(ad284.add ((a1).toNat * 7)).block, (ad284.add ((a1).toNat * 7)).off + 6, none⟩ = some (.string ((rd_T55 l0 a1).f6))) (ds := []) #[Z,Z,Z,Z,Z,Z,Z,Z,Z,Z,Z,Z,Z,Z,Z,Z,Z,Z,Z,Z,Z,Z,Z,Z,Z,Z,Z,Z,Z,Z,Z,Z,Z,Z,Z,Z,Z,Z,Z,Z,Z,Z] (by kernel_rfl) rfl rfl ⟨(kC_ BK290.out 0).trans rfl, (kC_ BK290.out 1).trans rfl, ((HB.out.cell (World.block_lt_of_cell? w _ hw291_0)).trans hw291_0), ((HB.out.cell (World.block_lt_of_cell? w _ hw291_1)).trans hw291_1), ((HB.out.cell (World.block_lt_of_cell? w _ hw291_2)).trans hw291_2), ((HB.out.cell (World.block_lt_of_cell? w _ hw291_3)).trans hw291_3), ((HB.out.cell (World.block_lt_of_cell? w _ hw291_4)).trans hw291_4), ((HB.out.cell (World.block_lt_of_cell? w _ hw291_5)).trans hw291_5), ((HB.out.cell (World.block_lt_of_cell? w _ hw291_6)).trans hw291_6)⟩ (fun hHeld => ?_); refine with_tabW spec_OuterOf.tab9 spec_OuterOf.bits9 (fun HT_ HW_ => ?_)
             generalize w37.drew = w38 at HO_5 BK290 HB hx291_0 hx291_1 hx291_2 hx291_3 hx291_4 hx291_5 hx291_6 hHeld ⊢
             refine pu_ (i := 0) (N := some 56) #[Y,Z,Z,Z,Z,Z,Z,Z,Z,Z,Z,Z,Z,Z,Z,Z,Z,Z,Z,Z,Z,Z,Z,Z,Z,Z,Z,Z,Z,Z,Z,Z,Z,Z,Z,Z,Z,Z,Z,Z,Z,Z] ?_
             refine pu_ (i := 2) (N := some 58) #[Y,Z,Y,Z,Z,Z,Z,Z,Z,Z,Z,Z,Z,Z,Z,Z,Z,Z,Z,Z,Z,Z,Z,Z,Z,Z,Z,Z,Z,Z,Z,Z,Z,Z,Z,Z,Z,Z,Z,Z,Z,Z] ?_
             refine tk_ (i := 1) (N := some 57) (v := ?_) (a' := ?_) #[Y,Y,Y,Z,Z,Z,Z,Z,Z,Z,Z,Z,Z,Z,Z,Z,Z,Z,Z,Z,Z,Z,Z,Z,Z,Z,Z,Z,Z,Z,Z,Z,Z,Z,Z,Z,Z,Z,Z,Z,Z,Z] ?_ hHeld ?_ ?_
             rotate_left
             ·
              rintro w' ⟨s0, s1, s2, s3, s4, s5, s6, s7, s8⟩
              go_simp
              with_reducible rfl
             rotate_left
             ·
              simp only [Act.put, List.setIfInBounds_toArray, List.set_cons_zero, List.set_cons_succ, i64_w, i32_w]
              rfl
             refine pu_ (i := 3) (N := some 59) #[Y,Y,Y,Y,Z,Z,Z,Z,Z,Z,Z,Z,Z,Z,Z,Z,Z,Z,Z,Z,Z,Z,Z,Z,Z,Z,Z,Z,Z,Z,Z,Z,Z,Z,Z,Z,Z,Z,Z,Z,Z,Z] ?_
             refine pu_ (i := 4) (N := some 60) #[Y,Y,Y,Y,Y,Z,Z,Z,Z,Z,Z,Z,Z,Z,Z,Z,Z,Z,Z,Z,Z,Z,Z,Z,Z,Z,Z,Z,Z,Z,Z,Z,Z,Z,Z,Z,Z,Z,Z,Z,Z,Z] ?_
             refine pu_ (i := 5) (N := some 61) #[Y,Y,Y,Y,Y,Y,Z,Z,Z,Z,Z,Z,Z,Z,Z,Z,Z,Z,Z,Z,Z,Z,Z,Z,Z,Z,Z,Z,Z,Z,Z,Z,Z,Z,Z,Z,Z,Z,Z,Z,Z,Z] ?_
             refine tk_ (i := 6) (N := some 62) (v := ?_) (a' := ?_) #[Y,Y,Y,Y,Y,Y,Y,Z,Z,Z,Z,Z,Z,Z,Z,Z,Z,Z,Z,Z,Z,Z,Z,Z,Z,Z,Z,Z,Z,Z,Z,Z,Z,Z,Z,Z,Z,Z,Z,Z,Z,Z] ?_ hHeld ?_ ?_
             rotate_left
             ·
              rintro w' ⟨s0, s1, s2, s3, s4, s5, s6, s7, s8⟩
              go_simp
              with_reducible rfl
             rotate_left
             ·
              simp only [Act.put, List.setIfInBounds_toArray, List.set_cons_zero, List.set_cons_succ, i64_w, i32_w]
              rfl
             refine pu_ (i := 7) (N := some 63) #[Y,Y,Y,Y,Y,Y,Y,Y,Z,Z,Z,Z,Z,Z,Z,Z,Z,Z,Z,Z,Z,Z,Z,Z,Z,Z,Z,Z,Z,Z,Z,Z,Z,Z,Z,Z,Z,Z,Z,Z,Z,Z] ?_
             refine pu_ (i := 8) (N := some 64) #[Y,Y,Y,Y,Y,Y,Y,Y,Y,Z,Z,Z,Z,Z,Z,Z,Z,Z,Z,Z,Z,Z,Z,Z,Z,Z,Z,Z,Z,Z,Z,Z,Z,Z,Z,Z,Z,Z,Z,Z,Z,Z] ?_
             refine pu_ (i := 9) (N := some 65) #[Y,Y,Y,Y,Y,Y,Y,Y,Y,Y,Z,Z,Z,Z,Z,Z,Z,Z,Z,Z,Z,Z,Z,Z,Z,Z,Z,Z,Z,Z,Z,Z,Z,Z,Z,Z,Z,Z,Z,Z,Z,Z] ?_
             refine pu_ (i := 10) (N := some 66) #[Y,Y,Y,Y,Y,Y,Y,Y,Y,Y,Y,Z,Z,Z,Z,Z,Z,Z,Z,Z,Z,Z,Z,Z,Z,Z,Z,Z,Z,Z,Z,Z,Z,Z,Z,Z,Z,Z,Z,Z,Z,Z] ?_
             refine pu_ (i := 12) (N := some 68) #[Y,Y,Y,Y,Y,Y,Y,Y,Y,Y,Y,Z,Y,Z,Z,Z,Z,Z,Z,Z,Z,Z,Z,Z,Z,Z,Z,Z,Z,Z,Z,Z,Z,Z,Z,Z,Z,Z,Z,Z,Z,Z] ?_
             refine pu_ (i := 13) (N := some 69) #[Y,Y,Y,Y,Y,Y,Y,Y,Y,Y,Y,Z,Y,Y,Z,Z,Z,Z,Z,Z,Z,Z,Z,Z,Z,Z,Z,Z,Z,Z,Z,Z,Z,Z,Z,Z,Z,Z,Z,Z,Z,Z] ?_
             refine pu_ (i := 14) (N := some 70) #[Y,Y,Y,Y,Y,Y,Y,Y,Y,Y,Y,Z,Y,Y,Y,Z,Z,Z,Z,Z,Z,Z,Z,Z,Z,Z,Z,Z,Z,Z,Z,Z,Z,Z,Z,Z,Z,Z,Z,Z,Z,Z] ?_
             refine pu_ (i := 15) (N := some 71) #[Y,Y,Y,Y,Y,Y,Y,Y,Y,Y,Y,Z,Y,Y,Y,Y,Z,Z,Z,Z,Z,Z,Z,Z,Z,Z,Z,Z,Z,Z,Z,Z,Z,Z,Z,Z,Z,Z,Z,Z,Z,Z] ?_
             refine pu_ (i := 16) (N := some 72) #[Y,Y,Y,Y,Y,Y,Y,Y,Y,Y,Y,Z,Y,Y,Y,Y,Y,Z,Z,Z,Z,Z,Z,Z,Z,Z,Z,Z,Z,Z,Z,Z,Z,Z,Z,Z,Z,Z,Z,Z,Z,Z] ?_
             refine tk_ (i := 11) (N := some 67) (v := ?_) (a' := ?_) #[Y,Y,Y,Y,Y,Y,Y,Y,Y,Y,Y,Y,Y,Y,Y,Y,Y,Z,Z,Z,Z,Z,Z,Z,Z,Z,Z,Z,Z,Z,Z,Z,Z,Z,Z,Z,Z,Z,Z,Z,Z,Z] ?_ hHeld ?_ ?_
             rotate_left
             ·
              rintro w' ⟨s0, s1, s2, s3, s4, s5, s6, s7, s8⟩
              go_simp
              with_reducible rfl
             rotate_left
             ·
              simp only [Act.put, List.setIfInBounds_toArray, List.set_cons_zero, List.set_cons_succ, i64_w, i32_w]
              rfl
             refine tk_ (i := 17) (N := some 73) (v := ?_) (a' := ?_) #[Y,Y,Y,Y,Y,Y,Y,Y,Y,Y,Y,Y,Y,Y,Y,Y,Y,Y,Z,Z,Z,Z,Z,Z,Z,Z,Z,Z,Z,Z,Z,Z,Z,Z,Z,Z,Z,Z,Z,Z,Z,Z] ?_ hHeld ?_ ?_
             rotate_left
             ·
              rintro w' ⟨s0, s1, s2, s3, s4, s5, s6, s7, s8⟩
              go_simp
              with_reducible rfl
             rotate_left
             ·
              simp only [Act.put, List.setIfInBounds_toArray, List.set_cons_zero, List.set_cons_succ, i64_w, i32_w]
              rfl
             refine one_ (i := 18) (N := some 74) #[Y,Y,Y,Y,Y,Y,Y,Y,Y,Y,Y,Y,Y,Y,Y,Y,Y,Y,Y,Z,Z,Z,Z,Z,Z,Z,Z,Z,Z,Z,Z,Z,Z,Z,Z,Z,Z,Z,Z,Z,Z,Z] rfl rfl (one_of HT_.out (by kernel_rfl)) (by decide) (fun K hK => ?_)
             refine goes_ Tryd.func60 (by kernel_rfl) rfl #[.slice (some ad284) l0.length c0, .int .i64 ((rd_T55 l0 a1).f1)] (by rfl) rfl rfl (by (try simp only [List.map_toArray, List.map_cons, List.map_nil]); first | done | rfl | (simp only [List.length_drop, List.length_take]; rfl)) ?_
             with_reducible refine (spec_StartOf.calls k2 _ _ l0 ((rd_T55 l0 a1).f1) t292 _ ?side1 ?side2 A35.out).mono ?_
             (case side1 => exact Cb_ HR0.out HB.out)
             (case side2 => exact HC0.out)
             rintro e w39 ⟨rfl, hb⟩
             refine ⟨_, rfl, ?_⟩
             replace HO_5 := Ad_.mk (Rb_ HO_5.out hb)
             replace BK290 := Ad_.mk (blk_below (g := gb290) (o := .cells #[.int .i64 t288, .int .i64 t289] 59 (0, 0)) (Ko_ BK290.out) hb)
             replace HB := Ad_.mk (bP_ (Bo_ HB.out GE290.out) hb)
             (try clear hb)
             (try clear hb2)
             (try clear hk)
             (try clear hi)
             refine hK.out _ _ ⟨(kC_ BK290.out 0).trans rfl, (kC_ BK290.out 1).trans rfl, ((HB.out.cell (World.block_lt_of_cell? w _ hw291_0)).trans hw291_0), ((HB.out.cell (World.block_lt_of_cell? w _ hw291_1)).trans hw291_1), ((HB.out.cell (World.block_lt_of_cell? w _ hw291_2)).trans hw291_2), ((HB.out.cell (World.block_lt_of_cell? w _ hw291_3)).trans hw291_3), ((HB.out.cell (World.block_lt_of_cell? w _ hw291_4)).trans hw291_4), ((HB.out.cell (World.block_lt_of_cell? w _ hw291_5)).trans hw291_5), ((HB.out.cell (World.block_lt_of_cell? w _ hw291_6)).trans hw291_6)⟩ (fun hHeld => ?_)
             clear hK K
             refine norm_ (a' := ?_) ?_ ?_
             rotate_left
             ·
              show Act.put _ (some 74) _ = _
              simp only [Act.put, List.setIfInBounds_toArray, List.set_cons_zero, List.set_cons_succ, i64_w, i32_w]
              rfl
             refine pu_ (i := 19) (N := some 75) #[Y,Y,Y,Y,Y,Y,Y,Y,Y,Y,Y,Y,Y,Y,Y,Y,Y,Y,Y,Y,Z,Z,Z,Z,Z,Z,Z,Z,Z,Z,Z,Z,Z,Z,Z,Z,Z,Z,Z,Z,Z,Z] ?_
             refine pu_ (i := 20) (N := some 76) #[Y,Y,Y,Y,Y,Y,Y,Y,Y,Y,Y,Y,Y,Y,Y,Y,Y,Y,Y,Y,Y,Z,Z,Z,Z,Z,Z,Z,Z,Z,Z,Z,Z,Z,Z,Z,Z,Z,Z,Z,Z,Z] ?_
             refine pu_ (i := 21) (N := some 77) #[Y,Y,Y,Y,Y,Y,Y,Y,Y,Y,Y,Y,Y,Y,Y,Y,Y,Y,Y,Y,Y,Y,Z,Z,Z,Z,Z,Z,Z,Z,Z,Z,Z,Z,Z,Z,Z,Z,Z,Z,Z,Z] ?_
             refine pv_ (i := 22) (N := some 78) #[Y,Y,Y,Y,Y,Y,Y,Y,Y,Y,Y,Y,Y,Y,Y,Y,Y,Y,Y,Y,Y,Y,Y,Z,Z,Z,Z,Z,Z,Z,Z,Z,Z,Z,Z,Z,Z,Z,Z,Z,Z,Z] ?_
             refine pv_ (i := 23) (N := some 79) #[Y,Y,Y,Y,Y,Y,Y,Y,Y,Y,Y,Y,Y,Y,Y,Y,Y,Y,Y,Y,Y,Y,Y,Y,Z,Z,Z,Z,Z,Z,Z,Z,Z,Z,Z,Z,Z,Z,Z,Z,Z,Z] ?_
             refine pv_ (i := 24) (N := some 80) #[Y,Y,Y,Y,Y,Y,Y,Y,Y,Y,Y,Y,Y,Y,Y,Y,Y,Y,Y,Y,Y,Y,Y,Y,Y,Z,Z,Z,Z,Z,Z,Z,Z,Z,Z,Z,Z,Z,Z,Z,Z,Z] ?_
             refine pu_ (i := 25) (N := some 81) #[Y,Y,Y,Y,Y,Y,Y,Y,Y,Y,Y,Y,Y,Y,Y,Y,Y,Y,Y,Y,Y,Y,Y,Y,Y,Y,Z,Z,Z,Z,Z,Z,Z,Z,Z,Z,Z,Z,Z,Z,Z,Z] ?_
             refine pu_ (i := 26) (N := some 82) #[Y,Y,Y,Y,Y,Y,Y,Y,Y,Y,Y,Y,Y,Y,Y,Y,Y,Y,Y,Y,Y,Y,Y,Y,Y,Y,Y,Z,Z,Z,Z,Z,Z,Z,Z,Z,Z,Z,Z,Z,Z,Z] ?_
             refine pv_ (i := 27) (N := some 83) #[Y,Y,Y,Y,Y,Y,Y,Y,Y,Y,Y,Y,Y,Y,Y,Y,Y,Y,Y,Y,Y,Y,Y,Y,Y,Y,Y,Y,Z,Z,Z,Z,Z,Z,Z,Z,Z,Z,Z,Z,Z,Z] ?_
             refine pv_ (i := 28) (N := some 84) #[Y,Y,Y,Y,Y,Y,Y,Y,Y,Y,Y,Y,Y,Y,Y,Y,Y,Y,Y,Y,Y,Y,Y,Y,Y,Y,Y,Y,Y,Z,Z,Z,Z,Z,Z,Z,Z,Z,Z,Z,Z,Z] ?_
             refine pv_ (i := 29) (N := some 85) #[Y,Y,Y,Y,Y,Y,Y,Y,Y,Y,Y,Y,Y,Y,Y,Y,Y,Y,Y,Y,Y,Y,Y,Y,Y,Y,Y,Y,Y,Y,Z,Z,Z,Z,Z,Z,Z,Z,Z,Z,Z,Z] ?_
             refine pv_ (i := 30) (N := some 86) #[Y,Y,Y,Y,Y,Y,Y,Y,Y,Y,Y,Y,Y,Y,Y,Y,Y,Y,Y,Y,Y,Y,Y,Y,Y,Y,Y,Y,Y,Y,Y,Z,Z,Z,Z,Z,Z,Z,Z,Z,Z,Z] ?_
             refine pv_ (i := 31) (N := some 87) #[Y,Y,Y,Y,Y,Y,Y,Y,Y,Y,Y,Y,Y,Y,Y,Y,Y,Y,Y,Y,Y,Y,Y,Y,Y,Y,Y,Y,Y,Y,Y,Y,Z,Z,Z,Z,Z,Z,Z,Z,Z,Z] ?_
             refine pv_ (i := 32) (N := some 88) #[Y,Y,Y,Y,Y,Y,Y,Y,Y,Y,Y,Y,Y,Y,Y,Y,Y,Y,Y,Y,Y,Y,Y,Y,Y,Y,Y,Y,Y,Y,Y,Y,Y,Z,Z,Z,Z,Z,Z,Z,Z,Z] ?_
             refine pv_ (i := 33) (N := some 89) #[Y,Y,Y,Y,Y,Y,Y,Y,Y,Y,Y,Y,Y,Y,Y,Y,Y,Y,Y,Y,Y,Y,Y,Y,Y,Y,Y,Y,Y,Y,Y,Y,Y,Y,Z,Z,Z,Z,Z,Z,Z,Z] ?_
             refine pv_ (i := 34) (N := some 90) #[Y,Y,Y,Y,Y,Y,Y,Y,Y,Y,Y,Y,Y,Y,Y,Y,Y,Y,Y,Y,Y,Y,Y,Y,Y,Y,Y,Y,Y,Y,Y,Y,Y,Y,Y,Z,Z,Z,Z,Z,Z,Z] ?_
             refine pv_ (i := 35) (N := some 91) #[Y,Y,Y,Y,Y,Y,Y,Y,Y,Y,Y,Y,Y,Y,Y,Y,Y,Y,Y,Y,Y,Y,Y,Y,Y,Y,Y,Y,Y,Y,Y,Y,Y,Y,Y,Y,Z,Z,Z,Z,Z,Z] ?_
             refine pv_ (i := 36) (N := some 92) #[Y,Y,Y,Y,Y,Y,Y,Y,Y,Y,Y,Y,Y,Y,Y,Y,Y,Y,Y,Y,Y,Y,Y,Y,Y,Y,Y,Y,Y,Y,Y,Y,Y,Y,Y,Y,Y,Z,Z,Z,Z,Z] ?_
             refine pv_ (i := 37) (N := some 93) #[Y,Y,Y,Y,Y,Y,Y,Y,Y,Y,Y,Y,Y,Y,Y,Y,Y,Y,Y,Y,Y,Y,Y,Y,Y,Y,Y,Y,Y,Y,Y,Y,Y,Y,Y,Y,Y,Y,Z,Z,Z,Z] ?_
             refine pv_ (i := 38) (N := some 94) #[Y,Y,Y,Y,Y,Y,Y,Y,Y,Y,Y,Y,Y,Y,Y,Y,Y,Y,Y,Y,Y,Y,Y,Y,Y,Y,Y,Y,Y,Y,Y,Y,Y,Y,Y,Y,Y,Y,Y,Z,Z,Z] ?_
             refine pv_ (i := 39) (N := some 95) #[Y,Y,Y,Y,Y,Y,Y,Y,Y,Y,Y,Y,Y,Y,Y,Y,Y,Y,Y,Y,Y,Y,Y,Y,Y,Y,Y,Y,Y,Y,Y,Y,Y,Y,Y,Y,Y,Y,Y,Y,Z,Z] ?_
             refine pv_ (i := 40) (N := some 96) #[Y,Y,Y,Y,Y,Y,Y,Y,Y,Y,Y,Y,Y,Y,Y,Y,Y,Y,Y,Y,Y,Y,Y,Y,Y,Y,Y,Y,Y,Y,Y,Y,Y,Y,Y,Y,Y,Y,Y,Y,Y,Z] ?_
             refine pu_ (i := 41) (N := some 97) #[Y,Y,Y,Y,Y,Y,Y,Y,Y,Y,Y,Y,Y,Y,Y,Y,Y,Y,Y,Y,Y,Y,Y,Y,Y,Y,Y,Y,Y,Y,Y,Y,Y,Y,Y,Y,Y,Y,Y,Y,Y,Y] ?_
             refine done_ (done_of HT_.out (by kernel_rfl)) ?_
             try go_wp2
             go_meet
             case rel => exact ⟨_, (true), fs_, H', ⟨by have := HJ2.out; have := HK2.out; first | omega | exact Nat.le_refl _⟩, ⟨Ro_ HO_5.out⟩, ⟨Ko_ BK290.out⟩, ⟨Bo_ HB.out GE290.out⟩⟩
            rw [if_neg c36] at H
            have c36b0 := decide_eq_false c36
            clear c36
            by_cases c40 : t288 < 0
            ·
             rw [if_pos c40] at H
             have c40b0 := decide_eq_true c40
             clear c40
             have H' := Ad_.mk H
             clear H
             try go_wp2
             have n0_ : Ad_ (Kd.R k59 59 ((w31.setCell ⟨gb290, 0, none⟩ (.int .i64 t288)).setCell ⟨gb290, 1, none⟩ (.int .i64 t289)) w.heap.size (fun k_ => k_ ≠ gb290) u5 x5_2) := ⟨by (with_reducible repeat (first | apply Kd.R_alloc | apply Kd.R_drewN | apply Kd.R_drew)); exact Kd.R_mono (Kd.R_far (p := ⟨gb290, 1, none⟩) (Kd.R_far (p := ⟨gb290, 0, none⟩) (Kd.R_mono HO_5.out (fun k_ hk => (⟨hk, hk.2⟩ : _ ∧ k_ ≠ gb290))) (fun _ hk => hk.2) (.int .i64 t288)) (fun _ hk => hk.2) (.int .i64 t289)) (fun _ hk => hk.1.2)⟩
             have n1_ : Ad_ (((w31.setCell ⟨gb290, 0, none⟩ (.int .i64 t288)).setCell ⟨gb290, 1, none⟩ (.int .i64 t289)).heap[gb290]? = some (.cells #[.int .i64 t288, .int .i64 t289] 59 (0, 0))) := ⟨by (with_reducible repeat (first | refine kN_ ?_ _ | refine k1_ ?_ | refine kA_ ?_ _)); refine blk_put (cs := #[.int .i64 t288, .int .i64 0]) ?_ 1 _ rfl; (with_reducible repeat (first | refine kN_ ?_ _ | refine k1_ ?_ | refine kA_ ?_ _)); refine blk_put (cs := #[.int .i64 0, .int .i64 0]) ?_ 0 _ rfl; (with_reducible repeat (first | refine kN_ ?_ _ | refine k1_ ?_ | refine kA_ ?_ _)); exact BK290.out⟩
             have n2_ : Ad_ (Below w.heap.size w ((w31.setCell ⟨gb290, 0, none⟩ (.int .i64 t288)).setCell ⟨gb290, 1, none⟩ (.int .i64 t289))) := ⟨Bo_ HB.out GE290.out⟩
             (try clear HO_5)
             (try clear BK290)
             (try clear HB)
             generalize ((w31.setCell ⟨gb290, 0, none⟩ (.int .i64 t288)).setCell ⟨gb290, 1, none⟩ (.int .i64 t289)) = w41 at n0_ n1_ n2_ ⊢
             have HO_5 := n0_
             have BK290 := n1_
             have HB := n2_
             clear n0_ n1_ n2_
             replace HO_5 := Ad_.mk (Kd.R_drew HO_5.out)
             replace BK290 := Ad_.mk (k1_ BK290.out)
             replace HB := Ad_.mk (b1_ HB.out)
             have p291 : 0 ≤ (a1 : Int) := od_
             have q291 : a1 < (l0.length : Int) := od_
             obtain ⟨ad291, e291, hx291_0, hx291_1, hx291_2, hx291_3, hx291_4, hx291_5, hx291_6⟩ := at_T55 HR0.out a1 p291 q291
             have hw291_6 := hx291_6
             have hw291_5 := hx291_5
             have hw291_4 := hx291_4
             have hw291_3 := hx291_3
             have hw291_2 := hx291_2
             have hw291_1 := hx291_1
             have hw291_0 := hx291_0
             obtain rfl : ad284 = ad291 := (by injection e291)
             replace hx291_0 := pB_ HB.out hx291_0
             replace hx291_1 := pB_ HB.out hx291_1
             replace hx291_2 := pB_ HB.out hx291_2
             replace hx291_3 := pB_ HB.out hx291_3
             replace hx291_4 := pB_ HB.out hx291_4
             replace hx291_5 := pB_ HB.out hx291_5
             replace hx291_6 := pB_ HB.out hx291_6
             replace p291 := eq_true p291
             replace q291 := eq_true q291
             refine start_ (n := 42) (S := fun w' => w'.cell? ⟨gb290, 0, none⟩ = some (.int .i64 t288) ∧ w'.cell? ⟨gb290, 1, none⟩ = some (.int .i64 t289) ∧ w'.cell? (ad284.add ((a1).toNat * 7)) = some (.int .i64 ((rd_T55 l0 a1).f0)) ∧ w'.cell? ⟨(ad284.add ((a1).toNat * 7)).block, (ad284.add ((a1).toNat * 7)).off + 1, none⟩ = some (.int .i64 ((rd_T55 l0 a1).f1)) ∧ w'.cell? ⟨(ad284.add ((a1).toNat * 7)).block, (ad284.add ((a1).toNat * 7)).off + 2, none⟩ = some (.int .i64 ((rd_T55 l0 a1).f2)) ∧ w'.cell? ⟨(ad284.add ((a1).toNat * 7)).block, (ad284.add ((a1).toNat * 7)).off + 3, none⟩ = some (.int .i64 ((rd_T55 l0 a1).f3)) ∧ w'.cell? ⟨(ad284.add ((a1).toNat * 7)).block, (ad284.add ((a1).toNat * 7)).off + 4, none⟩ = some (.int .i64 ((rd_T55 l0 a1).f4)) ∧ w'.cell? ⟨(ad284.add ((a1).toNat * 7)).block, (ad284.add ((a1).toNat * 7)).off + 5, none⟩ = some (.string ((rd_T55 l0 a1).f5)) ∧ w'.cell? ⟨(ad284.add ((a1).toNat * 7)).block, (ad284.add ((a1).toNat * 7)).off + 6, none⟩ = some (.string ((rd_T55 l0 a1).f6))) (ds := []) #[Z,Z,Z,Z,Z,Z,Z,Z,Z,Z,Z,Z,Z,Z,Z,Z,Z,Z,Z,Z,Z,Z,Z,Z,Z,Z,Z,Z,Z,Z,Z,Z,Z,Z,Z,Z,Z,Z,Z,Z,Z,Z] (by kernel_rfl) rfl rfl ⟨(kC_ BK290.out 0).trans rfl, (kC_ BK290.out 1).trans rfl, ((HB.out.cell (World.block_lt_of_cell? w _ hw291_0)).trans hw291_0), ((HB.out.cell (World.block_lt_of_cell? w _ hw291_1)).trans hw291_1), ((HB.out.cell (World.block_lt_of_cell? w _ hw291_2)).trans hw291_2), ((HB.out.cell (World.block_lt_of_cell? w _ hw291_3)).trans hw291_3), ((HB.out.cell (World.block_lt_of_cell? w _ hw291_4)).trans hw291_4), ((HB.out.cell (World.block_lt_of_cell? w _ hw291_5)).trans hw291_5), ((HB.out.cell (World.block_lt_of_cell? w _ hw291_6)).trans hw291_6)⟩ (fun hHeld => ?_); refine with_tabW spec_OuterOf.tab9 spec_OuterOf.bits9 (fun HT_ HW_ => ?_)
             generalize w41.drew = w42 at HO_5 BK290 HB hx291_0 hx291_1 hx291_2 hx291_3 hx291_4 hx291_5 hx291_6 hHeld ⊢
             refine pu_ (i := 0) (N := some 56) #[Y,Z,Z,Z,Z,Z,Z,Z,Z,Z,Z,Z,Z,Z,Z,Z,Z,Z,Z,Z,Z,Z,Z,Z,Z,Z,Z,Z,Z,Z,Z,Z,Z,Z,Z,Z,Z,Z,Z,Z,Z,Z] ?_
             refine pu_ (i := 2) (N := some 58) #[Y,Z,Y,Z,Z,Z,Z,Z,Z,Z,Z,Z,Z,Z,Z,Z,Z,Z,Z,Z,Z,Z,Z,Z,Z,Z,Z,Z,Z,Z,Z,Z,Z,Z,Z,Z,Z,Z,Z,Z,Z,Z] ?_
             refine tk_ (i := 1) (N := some 57) (v := ?_) (a' := ?_) #[Y,Y,Y,Z,Z,Z,Z,Z,Z,Z,Z,Z,Z,Z,Z,Z,Z,Z,Z,Z,Z,Z,Z,Z,Z,Z,Z,Z,Z,Z,Z,Z,Z,Z,Z,Z,Z,Z,Z,Z,Z,Z] ?_ hHeld ?_ ?_
             rotate_left
             ·
              rintro w' ⟨s0, s1, s2, s3, s4, s5, s6, s7, s8⟩
              go_simp
              with_reducible rfl
             rotate_left
             ·
              simp only [Act.put, List.setIfInBounds_toArray, List.set_cons_zero, List.set_cons_succ, i64_w, i32_w]
              rfl
             refine pu_ (i := 3) (N := some 59) #[Y,Y,Y,Y,Z,Z,Z,Z,Z,Z,Z,Z,Z,Z,Z,Z,Z,Z,Z,Z,Z,Z,Z,Z,Z,Z,Z,Z,Z,Z,Z,Z,Z,Z,Z,Z,Z,Z,Z,Z,Z,Z] ?_
             refine pu_ (i := 4) (N := some 60) #[Y,Y,Y,Y,Y,Z,Z,Z,Z,Z,Z,Z,Z,Z,Z,Z,Z,Z,Z,Z,Z,Z,Z,Z,Z,Z,Z,Z,Z,Z,Z,Z,Z,Z,Z,Z,Z,Z,Z,Z,Z,Z] ?_
             refine pu_ (i := 5) (N := some 61) #[Y,Y,Y,Y,Y,Y,Z,Z,Z,Z,Z,Z,Z,Z,Z,Z,Z,Z,Z,Z,Z,Z,Z,Z,Z,Z,Z,Z,Z,Z,Z,Z,Z,Z,Z,Z,Z,Z,Z,Z,Z,Z] ?_
             refine tk_ (i := 6) (N := some 62) (v := ?_) (a' := ?_) #[Y,Y,Y,Y,Y,Y,Y,Z,Z,Z,Z,Z,Z,Z,Z,Z,Z,Z,Z,Z,Z,Z,Z,Z,Z,Z,Z,Z,Z,Z,Z,Z,Z,Z,Z,Z,Z,Z,Z,Z,Z,Z] ?_ hHeld ?_ ?_
             rotate_left
             ·
              rintro w' ⟨s0, s1, s2, s3, s4, s5, s6, s7, s8⟩
              go_simp
              with_reducible rfl
             rotate_left
             ·
              simp only [Act.put, List.setIfInBounds_toArray, List.set_cons_zero, List.set_cons_succ, i64_w, i32_w]
              rfl
             refine pu_ (i := 7) (N := some 63) #[Y,Y,Y,Y,Y,Y,Y,Y,Z,Z,Z,Z,Z,Z,Z,Z,Z,Z,Z,Z,Z,Z,Z,Z,Z,Z,Z,Z,Z,Z,Z,Z,Z,Z,Z,Z,Z,Z,Z,Z,Z,Z] ?_
             refine pu_ (i := 8) (N := some 64) #[Y,Y,Y,Y,Y,Y,Y,Y,Y,Z,Z,Z,Z,Z,Z,Z,Z,Z,Z,Z,Z,Z,Z,Z,Z,Z,Z,Z,Z,Z,Z,Z,Z,Z,Z,Z,Z,Z,Z,Z,Z,Z] ?_
             refine pu_ (i := 9) (N := some 65) #[Y,Y,Y,Y,Y,Y,Y,Y,Y,Y,Z,Z,Z,Z,Z,Z,Z,Z,Z,Z,Z,Z,Z,Z,Z,Z,Z,Z,Z,Z,Z,Z,Z,Z,Z,Z,Z,Z,Z,Z,Z,Z] ?_
             refine pu_ (i := 10) (N := some 66) #[Y,Y,Y,Y,Y,Y,Y,Y,Y,Y,Y,Z,Z,Z,Z,Z,Z,Z,Z,Z,Z,Z,Z,Z,Z,Z,Z,Z,Z,Z,Z,Z,Z,Z,Z,Z,Z,Z,Z,Z,Z,Z] ?_
             refine pu_ (i := 12) (N := some 68) #[Y,Y,Y,Y,Y,Y,Y,Y,Y,Y,Y,Z,Y,Z,Z,Z,Z,Z,Z,Z,Z,Z,Z,Z,Z,Z,Z,Z,Z,Z,Z,Z,Z,Z,Z,Z,Z,Z,Z,Z,Z,Z] ?_
             refine pu_ (i := 13) (N := some 69) #[Y,Y,Y,Y,Y,Y,Y,Y,Y,Y,Y,Z,Y,Y,Z,Z,Z,Z,Z,Z,Z,Z,Z,Z,Z,Z,Z,Z,Z,Z,Z,Z,Z,Z,Z,Z,Z,Z,Z,Z,Z,Z] ?_
             refine pu_ (i := 14) (N := some 70) #[Y,Y,Y,Y,Y,Y,Y,Y,Y,Y,Y,Z,Y,Y,Y,Z,Z,Z,Z,Z,Z,Z,Z,Z,Z,Z,Z,Z,Z,Z,Z,Z,Z,Z,Z,Z,Z,Z,Z,Z,Z,Z] ?_
             refine pu_ (i := 15) (N := some 71) #[Y,Y,Y,Y,Y,Y,Y,Y,Y,Y,Y,Z,Y,Y,Y,Y,Z,Z,Z,Z,Z,Z,Z,Z,Z,Z,Z,Z,Z,Z,Z,Z,Z,Z,Z,Z,Z,Z,Z,Z,Z,Z] ?_
             refine pu_ (i := 16) (N := some 72) #[Y,Y,Y,Y,Y,Y,Y,Y,Y,Y,Y,Z,Y,Y,Y,Y,Y,Z,Z,Z,Z,Z,Z,Z,Z,Z,Z,Z,Z,Z,Z,Z,Z,Z,Z,Z,Z,Z,Z,Z,Z,Z] ?_
             refine tk_ (i := 11) (N := some 67) (v := ?_) (a' := ?_) #[Y,Y,Y,Y,Y,Y,Y,Y,Y,Y,Y,Y,Y,Y,Y,Y,Y,Z,Z,Z,Z,Z,Z,Z,Z,Z,Z,Z,Z,Z,Z,Z,Z,Z,Z,Z,Z,Z,Z,Z,Z,Z] ?_ hHeld ?_ ?_
             rotate_left
             ·
              rintro w' ⟨s0, s1, s2, s3, s4, s5, s6, s7, s8⟩
              go_simp
              with_reducible rfl
             rotate_left
             ·
              simp only [Act.put, List.setIfInBounds_toArray, List.set_cons_zero, List.set_cons_succ, i64_w, i32_w]
              rfl
             refine tk_ (i := 17) (N := some 73) (v := ?_) (a' := ?_) #[Y,Y,Y,Y,Y,Y,Y,Y,Y,Y,Y,Y,Y,Y,Y,Y,Y,Y,Z,Z,Z,Z,Z,Z,Z,Z,Z,Z,Z,Z,Z,Z,Z,Z,Z,Z,Z,Z,Z,Z,Z,Z] ?_ hHeld ?_ ?_
             rotate_left
             ·
              rintro w' ⟨s0, s1, s2, s3, s4, s5, s6, s7, s8⟩
              go_simp
              with_reducible rfl
             rotate_left
             ·
              simp only [Act.put, List.setIfInBounds_toArray, List.set_cons_zero, List.set_cons_succ, i64_w, i32_w]
              rfl
             refine one_ (i := 18) (N := some 74) #[Y,Y,Y,Y,Y,Y,Y,Y,Y,Y,Y,Y,Y,Y,Y,Y,Y,Y,Y,Z,Z,Z,Z,Z,Z,Z,Z,Z,Z,Z,Z,Z,Z,Z,Z,Z,Z,Z,Z,Z,Z,Z] rfl rfl (one_of HT_.out (by kernel_rfl)) (by decide) (fun K hK => ?_)
             refine goes_ Tryd.func60 (by kernel_rfl) rfl #[.slice (some ad284) l0.length c0, .int .i64 ((rd_T55 l0 a1).f1)] (by rfl) rfl rfl (by (try simp only [List.map_toArray, List.map_cons, List.map_nil]); first | done | rfl | (simp only [List.length_drop, List.length_take]; rfl)) ?_
             with_reducible refine (spec_StartOf.calls k2 _ _ l0 ((rd_T55 l0 a1).f1) t292 _ ?side1 ?side2 A35.out).mono ?_
             (case side1 => exact Cb_ HR0.out HB.out)
             (case side2 => exact HC0.out)
             rintro e w43 ⟨rfl, hb⟩
             refine ⟨_, rfl, ?_⟩
             replace HO_5 := Ad_.mk (Rb_ HO_5.out hb)
             replace BK290 := Ad_.mk (blk_below (g := gb290) (o := .cells #[.int .i64 t288, .int .i64 t289] 59 (0, 0)) (Ko_ BK290.out) hb)
             replace HB := Ad_.mk (bP_ (Bo_ HB.out GE290.out) hb)
             (try clear hb)
             (try clear hb2)
             (try clear hk)
             (try clear hi)
             refine hK.out _ _ ⟨(kC_ BK290.out 0).trans rfl, (kC_ BK290.out 1).trans rfl, ((HB.out.cell (World.block_lt_of_cell? w _ hw291_0)).trans hw291_0), ((HB.out.cell (World.block_lt_of_cell? w _ hw291_1)).trans hw291_1), ((HB.out.cell (World.block_lt_of_cell? w _ hw291_2)).trans hw291_2), ((HB.out.cell (World.block_lt_of_cell? w _ hw291_3)).trans hw291_3), ((HB.out.cell (World.block_lt_of_cell? w _ hw291_4)).trans hw291_4), ((HB.out.cell (World.block_lt_of_cell? w _ hw291_5)).trans hw291_5), ((HB.out.cell (World.block_lt_of_cell? w _ hw291_6)).trans hw291_6)⟩ (fun hHeld => ?_)
             clear hK K
             refine norm_ (a' := ?_) ?_ ?_
             rotate_left
             ·
              show Act.put _ (some 74) _ = _
              simp only [Act.put, List.setIfInBounds_toArray, List.set_cons_zero, List.set_cons_succ, i64_w, i32_w]
              rfl
             refine pu_ (i := 19) (N := some 75) #[Y,Y,Y,Y,Y,Y,Y,Y,Y,Y,Y,Y,Y,Y,Y,Y,Y,Y,Y,Y,Z,Z,Z,Z,Z,Z,Z,Z,Z,Z,Z,Z,Z,Z,Z,Z,Z,Z,Z,Z,Z,Z] ?_
             refine pu_ (i := 20) (N := some 76) #[Y,Y,Y,Y,Y,Y,Y,Y,Y,Y,Y,Y,Y,Y,Y,Y,Y,Y,Y,Y,Y,Z,Z,Z,Z,Z,Z,Z,Z,Z,Z,Z,Z,Z,Z,Z,Z,Z,Z,Z,Z,Z] ?_
             refine pu_ (i := 21) (N := some 77) #[Y,Y,Y,Y,Y,Y,Y,Y,Y,Y,Y,Y,Y,Y,Y,Y,Y,Y,Y,Y,Y,Y,Z,Z,Z,Z,Z,Z,Z,Z,Z,Z,Z,Z,Z,Z,Z,Z,Z,Z,Z,Z] ?_
             refine pu_ (i := 22) (N := some 78) #[Y,Y,Y,Y,Y,Y,Y,Y,Y,Y,Y,Y,Y,Y,Y,Y,Y,Y,Y,Y,Y,Y,Y,Z,Z,Z,Z,Z,Z,Z,Z,Z,Z,Z,Z,Z,Z,Z,Z,Z,Z,Z] ?_
             refine tk_ (i := 23) (N := some 79) (v := ?_) (a' := ?_) #[Y,Y,Y,Y,Y,Y,Y,Y,Y,Y,Y,Y,Y,Y,Y,Y,Y,Y,Y,Y,Y,Y,Y,Y,Z,Z,Z,Z,Z,Z,Z,Z,Z,Z,Z,Z,Z,Z,Z,Z,Z,Z] ?_ hHeld ?_ ?_
             rotate_left
             ·
              rintro w' ⟨s0, s1, s2, s3, s4, s5, s6, s7, s8⟩
              go_simp
              with_reducible rfl
             rotate_left
             ·
              simp only [Act.put, List.setIfInBounds_toArray, List.set_cons_zero, List.set_cons_succ, i64_w, i32_w]
              rfl
             refine pu_ (i := 24) (N := some 80) #[Y,Y,Y,Y,Y,Y,Y,Y,Y,Y,Y,Y,Y,Y,Y,Y,Y,Y,Y,Y,Y,Y,Y,Y,Y,Z,Z,Z,Z,Z,Z,Z,Z,Z,Z,Z,Z,Z,Z,Z,Z,Z] ?_
             refine pu_ (i := 25) (N := some 81) #[Y,Y,Y,Y,Y,Y,Y,Y,Y,Y,Y,Y,Y,Y,Y,Y,Y,Y,Y,Y,Y,Y,Y,Y,Y,Y,Z,Z,Z,Z,Z,Z,Z,Z,Z,Z,Z,Z,Z,Z,Z,Z] ?_
             refine pu_ (i := 26) (N := some 82) #[Y,Y,Y,Y,Y,Y,Y,Y,Y,Y,Y,Y,Y,Y,Y,Y,Y,Y,Y,Y,Y,Y,Y,Y,Y,Y,Y,Z,Z,Z,Z,Z,Z,Z,Z,Z,Z,Z,Z,Z,Z,Z] ?_
             refine pv_ (i := 27) (N := some 83) #[Y,Y,Y,Y,Y,Y,Y,Y,Y,Y,Y,Y,Y,Y,Y,Y,Y,Y,Y,Y,Y,Y,Y,Y,Y,Y,Y,Y,Z,Z,Z,Z,Z,Z,Z,Z,Z,Z,Z,Z,Z,Z] ?_
             refine pv_ (i := 28) (N := some 84) #[Y,Y,Y,Y,Y,Y,Y,Y,Y,Y,Y,Y,Y,Y,Y,Y,Y,Y,Y,Y,Y,Y,Y,Y,Y,Y,Y,Y,Y,Z,Z,Z,Z,Z,Z,Z,Z,Z,Z,Z,Z,Z] ?_
             refine pv_ (i := 29) (N := some 85) #[Y,Y,Y,Y,Y,Y,Y,Y,Y,Y,Y,Y,Y,Y,Y,Y,Y,Y,Y,Y,Y,Y,Y,Y,Y,Y,Y,Y,Y,Y,Z,Z,Z,Z,Z,Z,Z,Z,Z,Z,Z,Z] ?_
             refine pv_ (i := 30) (N := some 86) #[Y,Y,Y,Y,Y,Y,Y,Y,Y,Y,Y,Y,Y,Y,Y,Y,Y,Y,Y,Y,Y,Y,Y,Y,Y,Y,Y,Y,Y,Y,Y,Z,Z,Z,Z,Z,Z,Z,Z,Z,Z,Z] ?_
             refine pv_ (i := 31) (N := some 87) #[Y,Y,Y,Y,Y,Y,Y,Y,Y,Y,Y,Y,Y,Y,Y,Y,Y,Y,Y,Y,Y,Y,Y,Y,Y,Y,Y,Y,Y,Y,Y,Y,Z,Z,Z,Z,Z,Z,Z,Z,Z,Z] ?_
             refine pv_ (i := 32) (N := some 88) #[Y,Y,Y,Y,Y,Y,Y,Y,Y,Y,Y,Y,Y,Y,Y,Y,Y,Y,Y,Y,Y,Y,Y,Y,Y,Y,Y,Y,Y,Y,Y,Y,Y,Z,Z,Z,Z,Z,Z,Z,Z,Z] ?_
             refine pv_ (i := 33) (N := some 89) #[Y,Y,Y,Y,Y,Y,Y,Y,Y,Y,Y,Y,Y,Y,Y,Y,Y,Y,Y,Y,Y,Y,Y,Y,Y,Y,Y,Y,Y,Y,Y,Y,Y,Y,Z,Z,Z,Z,Z,Z,Z,Z] ?_
             refine pv_ (i := 34) (N := some 90) #[Y,Y,Y,Y,Y,Y,Y,Y,Y,Y,Y,Y,Y,Y,Y,Y,Y,Y,Y,Y,Y,Y,Y,Y,Y,Y,Y,Y,Y,Y,Y,Y,Y,Y,Y,Z,Z,Z,Z,Z,Z,Z] ?_
             refine pv_ (i := 35) (N := some 91) #[Y,Y,Y,Y,Y,Y,Y,Y,Y,Y,Y,Y,Y,Y,Y,Y,Y,Y,Y,Y,Y,Y,Y,Y,Y,Y,Y,Y,Y,Y,Y,Y,Y,Y,Y,Y,Z,Z,Z,Z,Z,Z] ?_
             refine pv_ (i := 36) (N := some 92) #[Y,Y,Y,Y,Y,Y,Y,Y,Y,Y,Y,Y,Y,Y,Y,Y,Y,Y,Y,Y,Y,Y,Y,Y,Y,Y,Y,Y,Y,Y,Y,Y,Y,Y,Y,Y,Y,Z,Z,Z,Z,Z] ?_
             refine pv_ (i := 37) (N := some 93) #[Y,Y,Y,Y,Y,Y,Y,Y,Y,Y,Y,Y,Y,Y,Y,Y,Y,Y,Y,Y,Y,Y,Y,Y,Y,Y,Y,Y,Y,Y,Y,Y,Y,Y,Y,Y,Y,Y,Z,Z,Z,Z] ?_
             refine pv_ (i := 38) (N := some 94) #[Y,Y,Y,Y,Y,Y,Y,Y,Y,Y,Y,Y,Y,Y,Y,Y,Y,Y,Y,Y,Y,Y,Y,Y,Y,Y,Y,Y,Y,Y,Y,Y,Y,Y,Y,Y,Y,Y,Y,Z,Z,Z] ?_
             refine pv_ (i := 39) (N := some 95) #[Y,Y,Y,Y,Y,Y,Y,Y,Y,Y,Y,Y,Y,Y,Y,Y,Y,Y,Y,Y,Y,Y,Y,Y,Y,Y,Y,Y,Y,Y,Y,Y,Y,Y,Y,Y,Y,Y,Y,Y,Z,Z] ?_
             refine pv_ (i := 40) (N := some 96) #[Y,Y,Y,Y,Y,Y,Y,Y,Y,Y,Y,Y,Y,Y,Y,Y,Y,Y,Y,Y,Y,Y,Y,Y,Y,Y,Y,Y,Y,Y,Y,Y,Y,Y,Y,Y,Y,Y,Y,Y,Y,Z] ?_
             refine pu_ (i := 41) (N := some 97) #[Y,Y,Y,Y,Y,Y,Y,Y,Y,Y,Y,Y,Y,Y,Y,Y,Y,Y,Y,Y,Y,Y,Y,Y,Y,Y,Y,Y,Y,Y,Y,Y,Y,Y,Y,Y,Y,Y,Y,Y,Y,Y] ?_
             refine done_ (done_of HT_.out (by kernel_rfl)) ?_
             try go_wp2
             go_meet
             case rel => exact ⟨_, (true), fs_, H', ⟨by have := HJ2.out; have := HK2.out; first | omega | exact Nat.le_refl _⟩, ⟨Ro_ HO_5.out⟩, ⟨Ko_ BK290.out⟩, ⟨Bo_ HB.out GE290.out⟩⟩
            rw [if_neg c40] at H
            have c40b0 := decide_eq_false c40
            clear c40
            by_cases c44 : t288 = a1
            rotate_left
            ·
             rw [if_neg c44] at H
             have c44b0 : (t288 == a1) = false := beq_eq_false_iff_ne.mpr c44
             have c44b1 : (t288 != a1) = true := bne_iff_ne.mpr c44
             have H' := Ad_.mk H
             clear H
             try go_wp2
             have n0_ : Ad_ (Kd.R k59 59 ((w31.setCell ⟨gb290, 0, none⟩ (.int .i64 t288)).setCell ⟨gb290, 1, none⟩ (.int .i64 t289)) w.heap.size (fun k_ => k_ ≠ gb290) u5 x5_2) := ⟨by (with_reducible repeat (first | apply Kd.R_alloc | apply Kd.R_drewN | apply Kd.R_drew)); exact Kd.R_mono (Kd.R_far (p := ⟨gb290, 1, none⟩) (Kd.R_far (p := ⟨gb290, 0, none⟩) (Kd.R_mono HO_5.out (fun k_ hk => (⟨hk, hk.2⟩ : _ ∧ k_ ≠ gb290))) (fun _ hk => hk.2) (.int .i64 t288)) (fun _ hk => hk.2) (.int .i64 t289)) (fun _ hk => hk.1.2)⟩
             have n1_ : Ad_ (((w31.setCell ⟨gb290, 0, none⟩ (.int .i64 t288)).setCell ⟨gb290, 1, none⟩ (.int .i64 t289)).heap[gb290]? = some (.cells #[.int .i64 t288, .int .i64 t289] 59 (0, 0))) := ⟨by (with_reducible repeat (first | refine kN_ ?_ _ | refine k1_ ?_ | refine kA_ ?_ _)); refine blk_put (cs := #[.int .i64 t288, .int .i64 0]) ?_ 1 _ rfl; (with_reducible repeat (first | refine kN_ ?_ _ | refine k1_ ?_ | refine kA_ ?_ _)); refine blk_put (cs := #[.int .i64 0, .int .i64 0]) ?_ 0 _ rfl; (with_reducible repeat (first | refine kN_ ?_ _ | refine k1_ ?_ | refine kA_ ?_ _)); exact BK290.out⟩
             have n2_ : Ad_ (Below w.heap.size w ((w31.setCell ⟨gb290, 0, none⟩ (.int .i64 t288)).setCell ⟨gb290, 1, none⟩ (.int .i64 t289))) := ⟨Bo_ HB.out GE290.out⟩
             (try clear HO_5)
             (try clear BK290)
             (try clear HB)
             generalize ((w31.setCell ⟨gb290, 0, none⟩ (.int .i64 t288)).setCell ⟨gb290, 1, none⟩ (.int .i64 t289)) = w50 at n0_ n1_ n2_ ⊢
             have HO_5 := n0_
             have BK290 := n1_
             have HB := n2_
             clear n0_ n1_ n2_
             replace HO_5 := Ad_.mk (Kd.R_drew HO_5.out)
             replace BK290 := Ad_.mk (k1_ BK290.out)
             replace HB := Ad_.mk (b1_ HB.out)
             have p291 : 0 ≤ (a1 : Int) := od_
             have q291 : a1 < (l0.length : Int) := od_
             obtain ⟨ad291, e291, hx291_0, hx291_1, hx291_2, hx291_3, hx291_4, hx291_5, hx291_6⟩ := at_T55 HR0.out a1 p291 q291
             have hw291_6 := hx291_6
             have hw291_5 := hx291_5
             have hw291_4 := hx291_4
             have hw291_3 := hx291_3
             have hw291_2 := hx291_2
             have hw291_1 := hx291_1
             have hw291_0 := hx291_0
             obtain rfl : ad284 = ad291 := (by injection e291)
             replace hx291_0 := pB_ HB.out hx291_0
             replace hx291_1 := pB_ HB.out hx291_1
             replace hx291_2 := pB_ HB.out hx291_2
             replace hx291_3 := pB_ HB.out hx291_3
             replace hx291_4 := pB_ HB.out hx291_4
             replace hx291_5 := pB_ HB.out hx291_5
             replace hx291_6 := pB_ HB.out hx291_6
             replace p291 := eq_true p291
             replace q291 := eq_true q291
             refine start_ (n := 42) (S := fun w' => w'.cell? ⟨gb290, 0, none⟩ = some (.int .i64 t288) ∧ w'.cell? ⟨gb290, 1, none⟩ = some (.int .i64 t289) ∧ w'.cell? (ad284.add ((a1).toNat * 7)) = some (.int .i64 ((rd_T55 l0 a1).f0)) ∧ w'.cell? ⟨(ad284.add ((a1).toNat * 7)).block, (ad284.add ((a1).toNat * 7)).off + 1, none⟩ = some (.int .i64 ((rd_T55 l0 a1).f1)) ∧ w'.cell? ⟨(ad284.add ((a1).toNat * 7)).block, (ad284.add ((a1).toNat * 7)).off + 2, none⟩ = some (.int .i64 ((rd_T55 l0 a1).f2)) ∧ w'.cell? ⟨(ad284.add ((a1).toNat * 7)).block, (ad284.add ((a1).toNat * 7)).off + 3, none⟩ = some (.int .i64 ((rd_T55 l0 a1).f3)) ∧ w'.cell? ⟨(ad284.add ((a1).toNat * 7)).block, (ad284.add ((a1).toNat * 7)).off + 4, none⟩ = some (.int .i64 ((rd_T55 l0 a1).f4)) ∧ w'.cell? ⟨(ad284.add ((a1).toNat * 7)).block, (ad284.add ((a1).toNat * 7)).off + 5, none⟩ = some (.string ((rd_T55 l0 a1).f5)) ∧ w'.cell? ⟨(ad284.add ((a1).toNat * 7)).block, (ad284.add ((a1).toNat * 7)).off + 6, none⟩ = some (.string ((rd_T55 l0 a1).f6))) (ds := []) #[Z,Z,Z,Z,Z,Z,Z,Z,Z,Z,Z,Z,Z,Z,Z,Z,Z,Z,Z,Z,Z,Z,Z,Z,Z,Z,Z,Z,Z,Z,Z,Z,Z,Z,Z,Z,Z,Z,Z,Z,Z,Z] (by kernel_rfl) rfl rfl ⟨(kC_ BK290.out 0).trans rfl, (kC_ BK290.out 1).trans rfl, ((HB.out.cell (World.block_lt_of_cell? w _ hw291_0)).trans hw291_0), ((HB.out.cell (World.block_lt_of_cell? w _ hw291_1)).trans hw291_1), ((HB.out.cell (World.block_lt_of_cell? w _ hw291_2)).trans hw291_2), ((HB.out.cell (World.block_lt_of_cell? w _ hw291_3)).trans hw291_3), ((HB.out.cell (World.block_lt_of_cell? w _ hw291_4)).trans hw291_4), ((HB.out.cell (World.block_lt_of_cell? w _ hw291_5)).trans hw291_5), ((HB.out.cell (World.block_lt_of_cell? w _ hw291_6)).trans hw291_6)⟩ (fun hHeld => ?_); refine with_tabW spec_OuterOf.tab9 spec_OuterOf.bits9 (fun HT_ HW_ => ?_)
             generalize w50.drew = w51 at HO_5 BK290 HB hx291_0 hx291_1 hx291_2 hx291_3 hx291_4 hx291_5 hx291_6 hHeld ⊢
             refine pu_ (i := 0) (N := some 56) #[Y,Z,Z,Z,Z,Z,Z,Z,Z,Z,Z,Z,Z,Z,Z,Z,Z,Z,Z,Z,Z,Z,Z,Z,Z,Z,Z,Z,Z,Z,Z,Z,Z,Z,Z,Z,Z,Z,Z,Z,Z,Z] ?_
             refine pu_ (i := 2) (N := some 58) #[Y,Z,Y,Z,Z,Z,Z,Z,Z,Z,Z,Z,Z,Z,Z,Z,Z,Z,Z,Z,Z,Z,Z,Z,Z,Z,Z,Z,Z,Z,Z,Z,Z,Z,Z,Z,Z,Z,Z,Z,Z,Z] ?_
             refine tk_ (i := 1) (N := some 57) (v := ?_) (a' := ?_) #[Y,Y,Y,Z,Z,Z,Z,Z,Z,Z,Z,Z,Z,Z,Z,Z,Z,Z,Z,Z,Z,Z,Z,Z,Z,Z,Z,Z,Z,Z,Z,Z,Z,Z,Z,Z,Z,Z,Z,Z,Z,Z] ?_ hHeld ?_ ?_
             rotate_left
             ·
              rintro w' ⟨s0, s1, s2, s3, s4, s5, s6, s7, s8⟩
              go_simp
              with_reducible rfl
             rotate_left
             ·
              simp only [Act.put, List.setIfInBounds_toArray, List.set_cons_zero, List.set_cons_succ, i64_w, i32_w]
              rfl
             refine pu_ (i := 3) (N := some 59) #[Y,Y,Y,Y,Z,Z,Z,Z,Z,Z,Z,Z,Z,Z,Z,Z,Z,Z,Z,Z,Z,Z,Z,Z,Z,Z,Z,Z,Z,Z,Z,Z,Z,Z,Z,Z,Z,Z,Z,Z,Z,Z] ?_
             refine pu_ (i := 4) (N := some 60) #[Y,Y,Y,Y,Y,Z,Z,Z,Z,Z,Z,Z,Z,Z,Z,Z,Z,Z,Z,Z,Z,Z,Z,Z,Z,Z,Z,Z,Z,Z,Z,Z,Z,Z,Z,Z,Z,Z,Z,Z,Z,Z] ?_
             refine pu_ (i := 5) (N := some 61) #[Y,Y,Y,Y,Y,Y,Z,Z,Z,Z,Z,Z,Z,Z,Z,Z,Z,Z,Z,Z,Z,Z,Z,Z,Z,Z,Z,Z,Z,Z,Z,Z,Z,Z,Z,Z,Z,Z,Z,Z,Z,Z] ?_
             refine tk_ (i := 6) (N := some 62) (v := ?_) (a' := ?_) #[Y,Y,Y,Y,Y,Y,Y,Z,Z,Z,Z,Z,Z,Z,Z,Z,Z,Z,Z,Z,Z,Z,Z,Z,Z,Z,Z,Z,Z,Z,Z,Z,Z,Z,Z,Z,Z,Z,Z,Z,Z,Z] ?_ hHeld ?_ ?_
             rotate_left
             ·
              rintro w' ⟨s0, s1, s2, s3, s4, s5, s6, s7, s8⟩
              go_simp
              with_reducible rfl
             rotate_left
             ·
              simp only [Act.put, List.setIfInBounds_toArray, List.set_cons_zero, List.set_cons_succ, i64_w, i32_w]
              rfl
             refine pu_ (i := 7) (N := some 63) #[Y,Y,Y,Y,Y,Y,Y,Y,Z,Z,Z,Z,Z,Z,Z,Z,Z,Z,Z,Z,Z,Z,Z,Z,Z,Z,Z,Z,Z,Z,Z,Z,Z,Z,Z,Z,Z,Z,Z,Z,Z,Z] ?_
             refine pu_ (i := 8) (N := some 64) #[Y,Y,Y,Y,Y,Y,Y,Y,Y,Z,Z,Z,Z,Z,Z,Z,Z,Z,Z,Z,Z,Z,Z,Z,Z,Z,Z,Z,Z,Z,Z,Z,Z,Z,Z,Z,Z,Z,Z,Z,Z,Z] ?_
             refine pu_ (i := 9) (N := some 65) #[Y,Y,Y,Y,Y,Y,Y,Y,Y,Y,Z,Z,Z,Z,Z,Z,Z,Z,Z,Z,Z,Z,Z,Z,Z,Z,Z,Z,Z,Z,Z,Z,Z,Z,Z,Z,Z,Z,Z,Z,Z,Z] ?_
             refine pu_ (i := 10) (N := some 66) #[Y,Y,Y,Y,Y,Y,Y,Y,Y,Y,Y,Z,Z,Z,Z,Z,Z,Z,Z,Z,Z,Z,Z,Z,Z,Z,Z,Z,Z,Z,Z,Z,Z,Z,Z,Z,Z,Z,Z,Z,Z,Z] ?_
             refine pu_ (i := 12) (N := some 68) #[Y,Y,Y,Y,Y,Y,Y,Y,Y,Y,Y,Z,Y,Z,Z,Z,Z,Z,Z,Z,Z,Z,Z,Z,Z,Z,Z,Z,Z,Z,Z,Z,Z,Z,Z,Z,Z,Z,Z,Z,Z,Z] ?_
             refine pu_ (i := 13) (N := some 69) #[Y,Y,Y,Y,Y,Y,Y,Y,Y,Y,Y,Z,Y,Y,Z,Z,Z,Z,Z,Z,Z,Z,Z,Z,Z,Z,Z,Z,Z,Z,Z,Z,Z,Z,Z,Z,Z,Z,Z,Z,Z,Z] ?_
             refine pu_ (i := 14) (N := some 70) #[Y,Y,Y,Y,Y,Y,Y,Y,Y,Y,Y,Z,Y,Y,Y,Z,Z,Z,Z,Z,Z,Z,Z,Z,Z,Z,Z,Z,Z,Z,Z,Z,Z,Z,Z,Z,Z,Z,Z,Z,Z,Z] ?_
             refine pu_ (i := 15) (N := some 71) #[Y,Y,Y,Y,Y,Y,Y,Y,Y,Y,Y,Z,Y,Y,Y,Y,Z,Z,Z,Z,Z,Z,Z,Z,Z,Z,Z,Z,Z,Z,Z,Z,Z,Z,Z,Z,Z,Z,Z,Z,Z,Z] ?_
             refine pu_ (i := 16) (N := some 72) #[Y,Y,Y,Y,Y,Y,Y,Y,Y,Y,Y,Z,Y,Y,Y,Y,Y,Z,Z,Z,Z,Z,Z,Z,Z,Z,Z,Z,Z,Z,Z,Z,Z,Z,Z,Z,Z,Z,Z,Z,Z,Z] ?_
             refine tk_ (i := 11) (N := some 67) (v := ?_) (a' := ?_) #[Y,Y,Y,Y,Y,Y,Y,Y,Y,Y,Y,Y,Y,Y,Y,Y,Y,Z,Z,Z,Z,Z,Z,Z,Z,Z,Z,Z,Z,Z,Z,Z,Z,Z,Z,Z,Z,Z,Z,Z,Z,Z] ?_ hHeld ?_ ?_
             rotate_left
             ·
              rintro w' ⟨s0, s1, s2, s3, s4, s5, s6, s7, s8⟩
              go_simp
              with_reducible rfl
             rotate_left
             ·
              simp only [Act.put, List.setIfInBounds_toArray, List.set_cons_zero, List.set_cons_succ, i64_w, i32_w]
              rfl
             refine tk_ (i := 17) (N := some 73) (v := ?_) (a' := ?_) #[Y,Y,Y,Y,Y,Y,Y,Y,Y,Y,Y,Y,Y,Y,Y,Y,Y,Y,Z,Z,Z,Z,Z,Z,Z,Z,Z,Z,Z,Z,Z,Z,Z,Z,Z,Z,Z,Z,Z,Z,Z,Z] ?_ hHeld ?_ ?_
             rotate_left
             ·
              rintro w' ⟨s0, s1, s2, s3, s4, s5, s6, s7, s8⟩
              go_simp
              with_reducible rfl
             rotate_left
             ·
              simp only [Act.put, List.setIfInBounds_toArray, List.set_cons_zero, List.set_cons_succ, i64_w, i32_w]
              rfl
             refine one_ (i := 18) (N := some 74) #[Y,Y,Y,Y,Y,Y,Y,Y,Y,Y,Y,Y,Y,Y,Y,Y,Y,Y,Y,Z,Z,Z,Z,Z,Z,Z,Z,Z,Z,Z,Z,Z,Z,Z,Z,Z,Z,Z,Z,Z,Z,Z] rfl rfl (one_of HT_.out (by kernel_rfl)) (by decide) (fun K hK => ?_)
             refine goes_ Tryd.func60 (by kernel_rfl) rfl #[.slice (some ad284) l0.length c0, .int .i64 ((rd_T55 l0 a1).f1)] (by rfl) rfl rfl (by (try simp only [List.map_toArray, List.map_cons, List.map_nil]); first | done | rfl | (simp only [List.length_drop, List.length_take]; rfl)) ?_
             with_reducible refine (spec_StartOf.calls k2 _ _ l0 ((rd_T55 l0 a1).f1) t292 _ ?side1 ?side2 A35.out).mono ?_
             (case side1 => exact Cb_ HR0.out HB.out)
             (case side2 => exact HC0.out)
             rintro e w52 ⟨rfl, hb⟩
             refine ⟨_, rfl, ?_⟩
             replace HO_5 := Ad_.mk (Rb_ HO_5.out hb)
             replace BK290 := Ad_.mk (blk_below (g := gb290) (o := .cells #[.int .i64 t288, .int .i64 t289] 59 (0, 0)) (Ko_ BK290.out) hb)
             replace HB := Ad_.mk (bP_ (Bo_ HB.out GE290.out) hb)
             (try clear hb)
             (try clear hb2)
             (try clear hk)
             (try clear hi)
             refine hK.out _ _ ⟨(kC_ BK290.out 0).trans rfl, (kC_ BK290.out 1).trans rfl, ((HB.out.cell (World.block_lt_of_cell? w _ hw291_0)).trans hw291_0), ((HB.out.cell (World.block_lt_of_cell? w _ hw291_1)).trans hw291_1), ((HB.out.cell (World.block_lt_of_cell? w _ hw291_2)).trans hw291_2), ((HB.out.cell (World.block_lt_of_cell? w _ hw291_3)).trans hw291_3), ((HB.out.cell (World.block_lt_of_cell? w _ hw291_4)).trans hw291_4), ((HB.out.cell (World.block_lt_of_cell? w _ hw291_5)).trans hw291_5), ((HB.out.cell (World.block_lt_of_cell? w _ hw291_6)).trans hw291_6)⟩ (fun hHeld => ?_)
             clear hK K
             refine norm_ (a' := ?_) ?_ ?_
             rotate_left
             ·
              show Act.put _ (some 74) _ = _
              simp only [Act.put, List.setIfInBounds_toArray, List.set_cons_zero, List.set_cons_succ, i64_w, i32_w]
              rfl
             refine pu_ (i := 19) (N := some 75) #[Y,Y,Y,Y,Y,Y,Y,Y,Y,Y,Y,Y,Y,Y,Y,Y,Y,Y,Y,Y,Z,Z,Z,Z,Z,Z,Z,Z,Z,Z,Z,Z,Z,Z,Z,Z,Z,Z,Z,Z,Z,Z] ?_
             refine pu_ (i := 20) (N := some 76) #[Y,Y,Y,Y,Y,Y,Y,Y,Y,Y,Y,Y,Y,Y,Y,Y,Y,Y,Y,Y,Y,Z,Z,Z,Z,Z,Z,Z,Z,Z,Z,Z,Z,Z,Z,Z,Z,Z,Z,Z,Z,Z] ?_
             refine pu_ (i := 21) (N := some 77) #[Y,Y,Y,Y,Y,Y,Y,Y,Y,Y,Y,Y,Y,Y,Y,Y,Y,Y,Y,Y,Y,Y,Z,Z,Z,Z,Z,Z,Z,Z,Z,Z,Z,Z,Z,Z,Z,Z,Z,Z,Z,Z] ?_
             refine pu_ (i := 22) (N := some 78) #[Y,Y,Y,Y,Y,Y,Y,Y,Y,Y,Y,Y,Y,Y,Y,Y,Y,Y,Y,Y,Y,Y,Y,Z,Z,Z,Z,Z,Z,Z,Z,Z,Z,Z,Z,Z,Z,Z,Z,Z,Z,Z] ?_
             refine tk_ (i := 23) (N := some 79) (v := ?_) (a' := ?_) #[Y,Y,Y,Y,Y,Y,Y,Y,Y,Y,Y,Y,Y,Y,Y,Y,Y,Y,Y,Y,Y,Y,Y,Y,Z,Z,Z,Z,Z,Z,Z,Z,Z,Z,Z,Z,Z,Z,Z,Z,Z,Z] ?_ hHeld ?_ ?_
             rotate_left
             ·
              rintro w' ⟨s0, s1, s2, s3, s4, s5, s6, s7, s8⟩
              go_simp
              with_reducible rfl
             rotate_left
             ·
              simp only [Act.put, List.setIfInBounds_toArray, List.set_cons_zero, List.set_cons_succ, i64_w, i32_w]
              rfl
             refine pu_ (i := 24) (N := some 80) #[Y,Y,Y,Y,Y,Y,Y,Y,Y,Y,Y,Y,Y,Y,Y,Y,Y,Y,Y,Y,Y,Y,Y,Y,Y,Z,Z,Z,Z,Z,Z,Z,Z,Z,Z,Z,Z,Z,Z,Z,Z,Z] ?_
             refine pu_ (i := 25) (N := some 81) #[Y,Y,Y,Y,Y,Y,Y,Y,Y,Y,Y,Y,Y,Y,Y,Y,Y,Y,Y,Y,Y,Y,Y,Y,Y,Y,Z,Z,Z,Z,Z,Z,Z,Z,Z,Z,Z,Z,Z,Z,Z,Z] ?_
             refine pu_ (i := 26) (N := some 82) #[Y,Y,Y,Y,Y,Y,Y,Y,Y,Y,Y,Y,Y,Y,Y,Y,Y,Y,Y,Y,Y,Y,Y,Y,Y,Y,Y,Z,Z,Z,Z,Z,Z,Z,Z,Z,Z,Z,Z,Z,Z,Z] ?_
             refine pu_ (i := 27) (N := some 83) #[Y,Y,Y,Y,Y,Y,Y,Y,Y,Y,Y,Y,Y,Y,Y,Y,Y,Y,Y,Y,Y,Y,Y,Y,Y,Y,Y,Y,Z,Z,Z,Z,Z,Z,Z,Z,Z,Z,Z,Z,Z,Z] ?_
             refine pu_ (i := 29) (N := some 85) #[Y,Y,Y,Y,Y,Y,Y,Y,Y,Y,Y,Y,Y,Y,Y,Y,Y,Y,Y,Y,Y,Y,Y,Y,Y,Y,Y,Y,Z,Y,Z,Z,Z,Z,Z,Z,Z,Z,Z,Z,Z,Z] ?_
             refine tk_ (i := 28) (N := some 84) (v := ?_) (a' := ?_) #[Y,Y,Y,Y,Y,Y,Y,Y,Y,Y,Y,Y,Y,Y,Y,Y,Y,Y,Y,Y,Y,Y,Y,Y,Y,Y,Y,Y,Y,Y,Z,Z,Z,Z,Z,Z,Z,Z,Z,Z,Z,Z] ?_ hHeld ?_ ?_
             rotate_left
             ·
              rintro w' ⟨s0, s1, s2, s3, s4, s5, s6, s7, s8⟩
              go_simp
              with_reducible rfl
             rotate_left
             ·
              simp only [Act.put, List.setIfInBounds_toArray, List.set_cons_zero, List.set_cons_succ, i64_w, i32_w]
              rfl
             refine pu_ (i := 30) (N := some 86) #[Y,Y,Y,Y,Y,Y,Y,Y,Y,Y,Y,Y,Y,Y,Y,Y,Y,Y,Y,Y,Y,Y,Y,Y,Y,Y,Y,Y,Y,Y,Y,Z,Z,Z,Z,Z,Z,Z,Z,Z,Z,Z] ?_
             refine pu_ (i := 31) (N := some 87) #[Y,Y,Y,Y,Y,Y,Y,Y,Y,Y,Y,Y,Y,Y,Y,Y,Y,Y,Y,Y,Y,Y,Y,Y,Y,Y,Y,Y,Y,Y,Y,Y,Z,Z,Z,Z,Z,Z,Z,Z,Z,Z] ?_
             refine pv_ (i := 32) (N := some 88) #[Y,Y,Y,Y,Y,Y,Y,Y,Y,Y,Y,Y,Y,Y,Y,Y,Y,Y,Y,Y,Y,Y,Y,Y,Y,Y,Y,Y,Y,Y,Y,Y,Y,Z,Z,Z,Z,Z,Z,Z,Z,Z] ?_
             refine pv_ (i := 33) (N := some 89) #[Y,Y,Y,Y,Y,Y,Y,Y,Y,Y,Y,Y,Y,Y,Y,Y,Y,Y,Y,Y,Y,Y,Y,Y,Y,Y,Y,Y,Y,Y,Y,Y,Y,Y,Z,Z,Z,Z,Z,Z,Z,Z] ?_
             refine pv_ (i := 34) (N := some 90) #[Y,Y,Y,Y,Y,Y,Y,Y,Y,Y,Y,Y,Y,Y,Y,Y,Y,Y,Y,Y,Y,Y,Y,Y,Y,Y,Y,Y,Y,Y,Y,Y,Y,Y,Y,Z,Z,Z,Z,Z,Z,Z] ?_
             refine pv_ (i := 35) (N := some 91) #[Y,Y,Y,Y,Y,Y,Y,Y,Y,Y,Y,Y,Y,Y,Y,Y,Y,Y,Y,Y,Y,Y,Y,Y,Y,Y,Y,Y,Y,Y,Y,Y,Y,Y,Y,Y,Z,Z,Z,Z,Z,Z] ?_
             refine pv_ (i := 36) (N := some 92) #[Y,Y,Y,Y,Y,Y,Y,Y,Y,Y,Y,Y,Y,Y,Y,Y,Y,Y,Y,Y,Y,Y,Y,Y,Y,Y,Y,Y,Y,Y,Y,Y,Y,Y,Y,Y,Y,Z,Z,Z,Z,Z] ?_
             refine pv_ (i := 37) (N := some 93) #[Y,Y,Y,Y,Y,Y,Y,Y,Y,Y,Y,Y,Y,Y,Y,Y,Y,Y,Y,Y,Y,Y,Y,Y,Y,Y,Y,Y,Y,Y,Y,Y,Y,Y,Y,Y,Y,Y,Z,Z,Z,Z] ?_
             refine pv_ (i := 38) (N := some 94) #[Y,Y,Y,Y,Y,Y,Y,Y,Y,Y,Y,Y,Y,Y,Y,Y,Y,Y,Y,Y,Y,Y,Y,Y,Y,Y,Y,Y,Y,Y,Y,Y,Y,Y,Y,Y,Y,Y,Y,Z,Z,Z] ?_
             refine pv_ (i := 39) (N := some 95) #[Y,Y,Y,Y,Y,Y,Y,Y,Y,Y,Y,Y,Y,Y,Y,Y,Y,Y,Y,Y,Y,Y,Y,Y,Y,Y,Y,Y,Y,Y,Y,Y,Y,Y,Y,Y,Y,Y,Y,Y,Z,Z] ?_
             refine pu_ (i := 40) (N := some 96) #[Y,Y,Y,Y,Y,Y,Y,Y,Y,Y,Y,Y,Y,Y,Y,Y,Y,Y,Y,Y,Y,Y,Y,Y,Y,Y,Y,Y,Y,Y,Y,Y,Y,Y,Y,Y,Y,Y,Y,Y,Y,Z] ?_
             refine pu_ (i := 41) (N := some 97) #[Y,Y,Y,Y,Y,Y,Y,Y,Y,Y,Y,Y,Y,Y,Y,Y,Y,Y,Y,Y,Y,Y,Y,Y,Y,Y,Y,Y,Y,Y,Y,Y,Y,Y,Y,Y,Y,Y,Y,Y,Y,Y] ?_
             refine done_ (done_of HT_.out (by kernel_rfl)) ?_
             try go_wp2
             go_meet
             case rel => exact ⟨_, (false), fs_, H', ⟨by have := HJ2.out; have := HK2.out; first | omega | exact Nat.le_refl _⟩, ⟨Ro_ HO_5.out⟩, ⟨Ko_ BK290.out⟩, ⟨Bo_ HB.out GE290.out⟩⟩
            rw [if_pos c44] at H
            have c44b0 : (t288 == a1) = true := beq_iff_eq.mpr c44
            have c44b1 : (t288 != a1) = false := bne_eq_false_iff_eq.mpr c44
            clear c44
            replace H := Option.bind_eq_some_iff.mp H
            obtain ⟨t294, A450, H⟩ := H
            try dsimp only at H
            have A45 := Ad_.mk A450
            clear A450
            have H' := Ad_.mk H
            clear H
            try go_wp2
            have n0_ : Ad_ (Kd.R k59 59 ((w31.setCell ⟨gb290, 0, none⟩ (.int .i64 t288)).setCell ⟨gb290, 1, none⟩ (.int .i64 t289)) w.heap.size (fun k_ => k_ ≠ gb290) u5 x5_2) := ⟨by (with_reducible repeat (first | apply Kd.R_alloc | apply Kd.R_drewN | apply Kd.R_drew)); exact Kd.R_mono (Kd.R_far (p := ⟨gb290, 1, none⟩) (Kd.R_far (p := ⟨gb290, 0, none⟩) (Kd.R_mono HO_5.out (fun k_ hk => (⟨hk, hk.2⟩ : _ ∧ k_ ≠ gb290))) (fun _ hk => hk.2) (.int .i64 t288)) (fun _ hk => hk.2) (.int .i64 t289)) (fun _ hk => hk.1.2)⟩
            have n1_ : Ad_ (((w31.setCell ⟨gb290, 0, none⟩ (.int .i64 t288)).setCell ⟨gb290, 1, none⟩ (.int .i64 t289)).heap[gb290]? = some (.cells #[.int .i64 t288, .int .i64 t289] 59 (0, 0))) := ⟨by (with_reducible repeat (first | refine kN_ ?_ _ | refine k1_ ?_ | refine kA_ ?_ _)); refine blk_put (cs := #[.int .i64 t288, .int .i64 0]) ?_ 1 _ rfl; (with_reducible repeat (first | refine kN_ ?_ _ | refine k1_ ?_ | refine kA_ ?_ _)); refine blk_put (cs := #[.int .i64 0, .int .i64 0]) ?_ 0 _ rfl; (with_reducible repeat (first | refine kN_ ?_ _ | refine k1_ ?_ | refine kA_ ?_ _)); exact BK290.out⟩
            have n2_ : Ad_ (Below w.heap.size w ((w31.setCell ⟨gb290, 0, none⟩ (.int .i64 t288)).setCell ⟨gb290, 1, none⟩ (.int .i64 t289))) := ⟨Bo_ HB.out GE290.out⟩
            (try clear HO_5)
            (try clear BK290)
            (try clear HB)
            generalize ((w31.setCell ⟨gb290, 0, none⟩ (.int .i64 t288)).setCell ⟨gb290, 1, none⟩ (.int .i64 t289)) = w46 at n0_ n1_ n2_ ⊢
            have HO_5 := n0_
            have BK290 := n1_
            have HB := n2_
            clear n0_ n1_ n2_
            replace HO_5 := Ad_.mk (Kd.R_drew HO_5.out)
            replace BK290 := Ad_.mk (k1_ BK290.out)
            replace HB := Ad_.mk (b1_ HB.out)
            have p291 : 0 ≤ (a1 : Int) := od_
            have q291 : a1 < (l0.length : Int) := od_
            obtain ⟨ad291, e291, hx291_0, hx291_1, hx291_2, hx291_3, hx291_4, hx291_5, hx291_6⟩ := at_T55 HR0.out a1 p291 q291
            have hw291_6 := hx291_6
            have hw291_5 := hx291_5
            have hw291_4 := hx291_4
            have hw291_3 := hx291_3
            have hw291_2 := hx291_2
            have hw291_1 := hx291_1
            have hw291_0 := hx291_0
            obtain rfl : ad284 = ad291 := (by injection e291)
            replace hx291_0 := pB_ HB.out hx291_0
            replace hx291_1 := pB_ HB.out hx291_1
            replace hx291_2 := pB_ HB.out hx291_2
            replace hx291_3 := pB_ HB.out hx291_3
            replace hx291_4 := pB_ HB.out hx291_4
            replace hx291_5 := pB_ HB.out hx291_5
            replace hx291_6 := pB_ HB.out hx291_6
            replace p291 := eq_true p291
            replace q291 := eq_true q291
            have p293 : 0 ≤ (a1 : Int) := od_
            have q293 : a1 < (l0.length : Int) := od_
            obtain ⟨ad293, e293, hx293_0, hx293_1, hx293_2, hx293_3, hx293_4, hx293_5, hx293_6⟩ := at_T55 HR0.out a1 p293 q293
            have hw293_6 := hx293_6
            have hw293_5 := hx293_5
            have hw293_4 := hx293_4
            have hw293_3 := hx293_3
            have hw293_2 := hx293_2
            have hw293_1 := hx293_1
            have hw293_0 := hx293_0
            obtain rfl : ad284 = ad293 := (by injection e293)
            replace hx293_0 := pB_ HB.out hx293_0
            replace hx293_1 := pB_ HB.out hx293_1
            replace hx293_2 := pB_ HB.out hx293_2
            replace hx293_3 := pB_ HB.out hx293_3
            replace hx293_4 := pB_ HB.out hx293_4
            replace hx293_5 := pB_ HB.out hx293_5
            replace hx293_6 := pB_ HB.out hx293_6
            replace p293 := eq_true p293
            replace q293 := eq_true q293
            refine start_ (n := 42) (S := fun w' => w'.cell? ⟨gb290, 0, none⟩ = some (.int .i64 t288) ∧ w'.cell? ⟨gb290, 1, none⟩ = some (.int .i64 t289) ∧ w'.cell? (ad284.add ((a1).toNat * 7)) = some (.int .i64 ((rd_T55 l0 a1).f0)) ∧ w'.cell? ⟨(ad284.add ((a1).toNat * 7)).block, (ad284.add ((a1).toNat * 7)).off + 1, none⟩ = some (.int .i64 ((rd_T55 l0 a1).f1)) ∧ w'.cell? ⟨(ad284.add ((a1).toNat * 7)).block, (ad284.add ((a1).toNat * 7)).off + 2, none⟩ = some (.int .i64 ((rd_T55 l0 a1).f2)) ∧ w'.cell? ⟨(ad284.add ((a1).toNat * 7)).block, (ad284.add ((a1).toNat * 7)).off + 3, none⟩ = some (.int .i64 ((rd_T55 l0 a1).f3)) ∧ w'.cell? ⟨(ad284.add ((a1).toNat * 7)).block, (ad284.add ((a1).toNat * 7)).off + 4, none⟩ = some (.int .i64 ((rd_T55 l0 a1).f4)) ∧ w'.cell? ⟨(ad284.add ((a1).toNat * 7)).block, (ad284.add ((a1).toNat * 7)).off + 5, none⟩ = some (.string ((rd_T55 l0 a1).f5)) ∧ w'.cell? ⟨(ad284.add ((a1).toNat * 7)).block, (ad284.add ((a1).toNat * 7)).off + 6, none⟩ = some (.string ((rd_T55 l0 a1).f6)) ∧ w'.cell? (ad284.add ((a1).toNat * 7)) = some (.int .i64 ((rd_T55 l0 a1).f0)) ∧ w'.cell? ⟨(ad284.add ((a1).toNat * 7)).block, (ad284.add ((a1).toNat * 7)).off + 1, none⟩ = some (.int .i64 ((rd_T55 l0 a1).f1)) ∧ w'.cell? ⟨(ad284.add ((a1).toNat * 7)).block, (ad284.add ((a1).toNat * 7)).off + 2, none⟩ = some (.int .i64 ((rd_T55 l0 a1).f2)) ∧ w'.cell? ⟨(ad284.add ((a1).toNat * 7)).block, (ad284.add ((a1).toNat * 7)).off + 3, none⟩ = some (.int .i64 ((rd_T55 l0 a1).f3)) ∧ w'.cell? ⟨(ad284.add ((a1).toNat * 7)).block, (ad284.add ((a1).toNat * 7)).off + 4, none⟩ = some (.int .i64 ((rd_T55 l0 a1).f4)) ∧ w'.cell? ⟨(ad284.add ((a1).toNat * 7)).block, (ad284.add ((a1).toNat * 7)).off + 5, none⟩ = some (.string ((rd_T55 l0 a1).f5)) ∧ w'.cell? ⟨(ad284.add ((a1).toNat * 7)).block, (ad284.add ((a1).toNat * 7)).off + 6, none⟩ = some (.string ((rd_T55 l0 a1).f6))) (ds := []) #[Z,Z,Z,Z,Z,Z,Z,Z,Z,Z,Z,Z,Z,Z,Z,Z,Z,Z,Z,Z,Z,Z,Z,Z,Z,Z,Z,Z,Z,Z,Z,Z,Z,Z,Z,Z,Z,Z,Z,Z,Z,Z] (by kernel_rfl) rfl rfl ⟨(kC_ BK290.out 0).trans rfl, (kC_ BK290.out 1).trans rfl, ((HB.out.cell (World.block_lt_of_cell? w _ hw291_0)).trans hw291_0), ((HB.out.cell (World.block_lt_of_cell? w _ hw291_1)).trans hw291_1), ((HB.out.cell (World.block_lt_of_cell? w _ hw291_2)).trans hw291_2), ((HB.out.cell (World.block_lt_of_cell? w _ hw291_3)).trans hw291_3), ((HB.out.cell (World.block_lt_of_cell? w _ hw291_4)).trans hw291_4), ((HB.out.cell (World.block_lt_of_cell? w _ hw291_5)).trans hw291_5), ((HB.out.cell (World.block_lt_of_cell? w _ hw291_6)).trans hw291_6), ((HB.out.cell (World.block_lt_of_cell? w _ hw293_0)).trans hw293_0), ((HB.out.cell (World.block_lt_of_cell? w _ hw293_1)).trans hw293_1), ((HB.out.cell (World.block_lt_of_cell? w _ hw293_2)).trans hw293_2), ((HB.out.cell (World.block_lt_of_cell? w _ hw293_3)).trans hw293_3), ((HB.out.cell (World.block_lt_of_cell? w _ hw293_4)).trans hw293_4), ((HB.out.cell (World.block_lt_of_cell? w _ hw293_5)).trans hw293_5), ((HB.out.cell (World.block_lt_of_cell? w _ hw293_6)).trans hw293_6)⟩ (fun hHeld => ?_); refine with_tabW spec_OuterOf.tab9 spec_OuterOf.bits9 (fun HT_ HW_ => ?_)
            generalize w46.drew = w47 at HO_5 BK290 HB hx291_0 hx291_1 hx291_2 hx291_3 hx291_4 hx291_5 hx291_6 hx293_0 hx293_1 hx293_2 hx293_3 hx293_4 hx293_5 hx293_6 hHeld ⊢
            refine pu_ (i := 0) (N := some 56) #[Y,Z,Z,Z,Z,Z,Z,Z,Z,Z,Z,Z,Z,Z,Z,Z,Z,Z,Z,Z,Z,Z,Z,Z,Z,Z,Z,Z,Z,Z,Z,Z,Z,Z,Z,Z,Z,Z,Z,Z,Z,Z] ?_
            refine pu_ (i := 2) (N := some 58) #[Y,Z,Y,Z,Z,Z,Z,Z,Z,Z,Z,Z,Z,Z,Z,Z,Z,Z,Z,Z,Z,Z,Z,Z,Z,Z,Z,Z,Z,Z,Z,Z,Z,Z,Z,Z,Z,Z,Z,Z,Z,Z] ?_
            refine tk_ (i := 1) (N := some 57) (v := ?_) (a' := ?_) #[Y,Y,Y,Z,Z,Z,Z,Z,Z,Z,Z,Z,Z,Z,Z,Z,Z,Z,Z,Z,Z,Z,Z,Z,Z,Z,Z,Z,Z,Z,Z,Z,Z,Z,Z,Z,Z,Z,Z,Z,Z,Z] ?_ hHeld ?_ ?_
            rotate_left
            ·
             rintro w' ⟨s0, s1, s2, s3, s4, s5, s6, s7, s8, s9, s10, s11, s12, s13, s14, s15⟩
             go_simp
             with_reducible rfl
            rotate_left
            ·
             simp only [Act.put, List.setIfInBounds_toArray, List.set_cons_zero, List.set_cons_succ, i64_w, i32_w]
             rfl
            refine pu_ (i := 3) (N := some 59) #[Y,Y,Y,Y,Z,Z,Z,Z,Z,Z,Z,Z,Z,Z,Z,Z,Z,Z,Z,Z,Z,Z,Z,Z,Z,Z,Z,Z,Z,Z,Z,Z,Z,Z,Z,Z,Z,Z,Z,Z,Z,Z] ?_
            refine pu_ (i := 4) (N := some 60) #[Y,Y,Y,Y,Y,Z,Z,Z,Z,Z,Z,Z,Z,Z,Z,Z,Z,Z,Z,Z,Z,Z,Z,Z,Z,Z,Z,Z,Z,Z,Z,Z,Z,Z,Z,Z,Z,Z,Z,Z,Z,Z] ?_
            refine pu_ (i := 5) (N := some 61) #[Y,Y,Y,Y,Y,Y,Z,Z,Z,Z,Z,Z,Z,Z,Z,Z,Z,Z,Z,Z,Z,Z,Z,Z,Z,Z,Z,Z,Z,Z,Z,Z,Z,Z,Z,Z,Z,Z,Z,Z,Z,Z] ?_
            refine tk_ (i := 6) (N := some 62) (v := ?_) (a' := ?_) #[Y,Y,Y,Y,Y,Y,Y,Z,Z,Z,Z,Z,Z,Z,Z,Z,Z,Z,Z,Z,Z,Z,Z,Z,Z,Z,Z,Z,Z,Z,Z,Z,Z,Z,Z,Z,Z,Z,Z,Z,Z,Z] ?_ hHeld ?_ ?_
            rotate_left
            ·
             rintro w' ⟨s0, s1, s2, s3, s4, s5, s6, s7, s8, s9, s10, s11, s12, s13, s14, s15⟩
             go_simp
             with_reducible rfl
            rotate_left
            ·
             simp only [Act.put, List.setIfInBounds_toArray, List.set_cons_zero, List.set_cons_succ, i64_w, i32_w]
             rfl
            refine pu_ (i := 7) (N := some 63) #[Y,Y,Y,Y,Y,Y,Y,Y,Z,Z,Z,Z,Z,Z,Z,Z,Z,Z,Z,Z,Z,Z,Z,Z,Z,Z,Z,Z,Z,Z,Z,Z,Z,Z,Z,Z,Z,Z,Z,Z,Z,Z] ?_
            refine pu_ (i := 8) (N := some 64) #[Y,Y,Y,Y,Y,Y,Y,Y,Y,Z,Z,Z,Z,Z,Z,Z,Z,Z,Z,Z,Z,Z,Z,Z,Z,Z,Z,Z,Z,Z,Z,Z,Z,Z,Z,Z,Z,Z,Z,Z,Z,Z] ?_
            refine pu_ (i := 9) (N := some 65) #[Y,Y,Y,Y,Y,Y,Y,Y,Y,Y,Z,Z,Z,Z,Z,Z,Z,Z,Z,Z,Z,Z,Z,Z,Z,Z,Z,Z,Z,Z,Z,Z,Z,Z,Z,Z,Z,Z,Z,Z,Z,Z] ?_
            refine pu_ (i := 10) (N := some 66) #[Y,Y,Y,Y,Y,Y,Y,Y,Y,Y,Y,Z,Z,Z,Z,Z,Z,Z,Z,Z,Z,Z,Z,Z,Z,Z,Z,Z,Z,Z,Z,Z,Z,Z,Z,Z,Z,Z,Z,Z,Z,Z] ?_
            refine pu_ (i := 12) (N := some 68) #[Y,Y,Y,Y,Y,Y,Y,Y,Y,Y,Y,Z,Y,Z,Z,Z,Z,Z,Z,Z,Z,Z,Z,Z,Z,Z,Z,Z,Z,Z,Z,Z,Z,Z,Z,Z,Z,Z,Z,Z,Z,Z] ?_
            refine pu_ (i := 13) (N := some 69) #[Y,Y,Y,Y,Y,Y,Y,Y,Y,Y,Y,Z,Y,Y,Z,Z,Z,Z,Z,Z,Z,Z,Z,Z,Z,Z,Z,Z,Z,Z,Z,Z,Z,Z,Z,Z,Z,Z,Z,Z,Z,Z] ?_
            refine pu_ (i := 14) (N := some 70) #[Y,Y,Y,Y,Y,Y,Y,Y,Y,Y,Y,Z,Y,Y,Y,Z,Z,Z,Z,Z,Z,Z,Z,Z,Z,Z,Z,Z,Z,Z,Z,Z,Z,Z,Z,Z,Z,Z,Z,Z,Z,Z] ?_
            refine pu_ (i := 15) (N := some 71) #[Y,Y,Y,Y,Y,Y,Y,Y,Y,Y,Y,Z,Y,Y,Y,Y,Z,Z,Z,Z,Z,Z,Z,Z,Z,Z,Z,Z,Z,Z,Z,Z,Z,Z,Z,Z,Z,Z,Z,Z,Z,Z] ?_
            refine pu_ (i := 16) (N := some 72) #[Y,Y,Y,Y,Y,Y,Y,Y,Y,Y,Y,Z,Y,Y,Y,Y,Y,Z,Z,Z,Z,Z,Z,Z,Z,Z,Z,Z,Z,Z,Z,Z,Z,Z,Z,Z,Z,Z,Z,Z,Z,Z] ?_
            refine tk_ (i := 11) (N := some 67) (v := ?_) (a' := ?_) #[Y,Y,Y,Y,Y,Y,Y,Y,Y,Y,Y,Y,Y,Y,Y,Y,Y,Z,Z,Z,Z,Z,Z,Z,Z,Z,Z,Z,Z,Z,Z,Z,Z,Z,Z,Z,Z,Z,Z,Z,Z,Z] ?_ hHeld ?_ ?_
            rotate_left
            ·
             rintro w' ⟨s0, s1, s2, s3, s4, s5, s6, s7, s8, s9, s10, s11, s12, s13, s14, s15⟩
             go_simp
             with_reducible rfl
            rotate_left
            ·
             simp only [Act.put, List.setIfInBounds_toArray, List.set_cons_zero, List.set_cons_succ, i64_w, i32_w]
             rfl
            refine tk_ (i := 17) (N := some 73) (v := ?_) (a' := ?_) #[Y,Y,Y,Y,Y,Y,Y,Y,Y,Y,Y,Y,Y,Y,Y,Y,Y,Y,Z,Z,Z,Z,Z,Z,Z,Z,Z,Z,Z,Z,Z,Z,Z,Z,Z,Z,Z,Z,Z,Z,Z,Z] ?_ hHeld ?_ ?_
            rotate_left
            ·
             rintro w' ⟨s0, s1, s2, s3, s4, s5, s6, s7, s8, s9, s10, s11, s12, s13, s14, s15⟩
             go_simp
             with_reducible rfl
            rotate_left
            ·
             simp only [Act.put, List.setIfInBounds_toArray, List.set_cons_zero, List.set_cons_succ, i64_w, i32_w]
             rfl
            refine one_ (i := 18) (N := some 74) #[Y,Y,Y,Y,Y,Y,Y,Y,Y,Y,Y,Y,Y,Y,Y,Y,Y,Y,Y,Z,Z,Z,Z,Z,Z,Z,Z,Z,Z,Z,Z,Z,Z,Z,Z,Z,Z,Z,Z,Z,Z,Z] rfl rfl (one_of HT_.out (by kernel_rfl)) (by decide) (fun K hK => ?_)
            refine goes_ Tryd.func60 (by kernel_rfl) rfl #[.slice (some ad284) l0.length c0, .int .i64 ((rd_T55 l0 a1).f1)] (by rfl) rfl rfl (by (try simp only [List.map_toArray, List.map_cons, List.map_nil]); first | done | rfl | (simp only [List.length_drop, List.length_take]; rfl)) ?_
            with_reducible refine (spec_StartOf.calls k2 _ _ l0 ((rd_T55 l0 a1).f1) t292 _ ?side1 ?side2 A35.out).mono ?_
            (case side1 => exact Cb_ HR0.out HB.out)
            (case side2 => exact HC0.out)
            rintro e w48 ⟨rfl, hb⟩
            refine ⟨_, rfl, ?_⟩
            replace HO_5 := Ad_.mk (Rb_ HO_5.out hb)
            replace BK290 := Ad_.mk (blk_below (g := gb290) (o := .cells #[.int .i64 t288, .int .i64 t289] 59 (0, 0)) (Ko_ BK290.out) hb)
            replace HB := Ad_.mk (bP_ (Bo_ HB.out GE290.out) hb)
            (try clear hb)
            (try clear hb2)
            (try clear hk)
            (try clear hi)
            refine hK.out _ _ ⟨(kC_ BK290.out 0).trans rfl, (kC_ BK290.out 1).trans rfl, ((HB.out.cell (World.block_lt_of_cell? w _ hw291_0)).trans hw291_0), ((HB.out.cell (World.block_lt_of_cell? w _ hw291_1)).trans hw291_1), ((HB.out.cell (World.block_lt_of_cell? w _ hw291_2)).trans hw291_2), ((HB.out.cell (World.block_lt_of_cell? w _ hw291_3)).trans hw291_3), ((HB.out.cell (World.block_lt_of_cell? w _ hw291_4)).trans hw291_4), ((HB.out.cell (World.block_lt_of_cell? w _ hw291_5)).trans hw291_5), ((HB.out.cell (World.block_lt_of_cell? w _ hw291_6)).trans hw291_6), ((HB.out.cell (World.block_lt_of_cell? w _ hw293_0)).trans hw293_0), ((HB.out.cell (World.block_lt_of_cell? w _ hw293_1)).trans hw293_1), ((HB.out.cell (World.block_lt_of_cell? w _ hw293_2)).trans hw293_2), ((HB.out.cell (World.block_lt_of_cell? w _ hw293_3)).trans hw293_3), ((HB.out.cell (World.block_lt_of_cell? w _ hw293_4)).trans hw293_4), ((HB.out.cell (World.block_lt_of_cell? w _ hw293_5)).trans hw293_5), ((HB.out.cell (World.block_lt_of_cell? w _ hw293_6)).trans hw293_6)⟩ (fun hHeld => ?_)
            clear hK K
            refine norm_ (a' := ?_) ?_ ?_
            rotate_left
            ·
             show Act.put _ (some 74) _ = _
             simp only [Act.put, List.setIfInBounds_toArray, List.set_cons_zero, List.set_cons_succ, i64_w, i32_w]
             rfl
            refine pu_ (i := 19) (N := some 75) #[Y,Y,Y,Y,Y,Y,Y,Y,Y,Y,Y,Y,Y,Y,Y,Y,Y,Y,Y,Y,Z,Z,Z,Z,Z,Z,Z,Z,Z,Z,Z,Z,Z,Z,Z,Z,Z,Z,Z,Z,Z,Z] ?_
            refine pu_ (i := 20) (N := some 76) #[Y,Y,Y,Y,Y,Y,Y,Y,Y,Y,Y,Y,Y,Y,Y,Y,Y,Y,Y,Y,Y,Z,Z,Z,Z,Z,Z,Z,Z,Z,Z,Z,Z,Z,Z,Z,Z,Z,Z,Z,Z,Z] ?_
            refine pu_ (i := 21) (N := some 77) #[Y,Y,Y,Y,Y,Y,Y,Y,Y,Y,Y,Y,Y,Y,Y,Y,Y,Y,Y,Y,Y,Y,Z,Z,Z,Z,Z,Z,Z,Z,Z,Z,Z,Z,Z,Z,Z,Z,Z,Z,Z,Z] ?_
            refine pu_ (i := 22) (N := some 78) #[Y,Y,Y,Y,Y,Y,Y,Y,Y,Y,Y,Y,Y,Y,Y,Y,Y,Y,Y,Y,Y,Y,Y,Z,Z,Z,Z,Z,Z,Z,Z,Z,Z,Z,Z,Z,Z,Z,Z,Z,Z,Z] ?_
            refine tk_ (i := 23) (N := some 79) (v := ?_) (a' := ?_) #[Y,Y,Y,Y,Y,Y,Y,Y,Y,Y,Y,Y,Y,Y,Y,Y,Y,Y,Y,Y,Y,Y,Y,Y,Z,Z,Z,Z,Z,Z,Z,Z,Z,Z,Z,Z,Z,Z,Z,Z,Z,Z] ?_ hHeld ?_ ?_
            rotate_left
            ·
             rintro w' ⟨s0, s1, s2, s3, s4, s5, s6, s7, s8, s9, s10, s11, s12, s13, s14, s15⟩
             go_simp
             with_reducible rfl
            rotate_left
            ·
             simp only [Act.put, List.setIfInBounds_toArray, List.set_cons_zero, List.set_cons_succ, i64_w, i32_w]
             rfl
            refine pu_ (i := 24) (N := some 80) #[Y,Y,Y,Y,Y,Y,Y,Y,Y,Y,Y,Y,Y,Y,Y,Y,Y,Y,Y,Y,Y,Y,Y,Y,Y,Z,Z,Z,Z,Z,Z,Z,Z,Z,Z,Z,Z,Z,Z,Z,Z,Z] ?_
            refine pu_ (i := 25) (N := some 81) #[Y,Y,Y,Y,Y,Y,Y,Y,Y,Y,Y,Y,Y,Y,Y,Y,Y,Y,Y,Y,Y,Y,Y,Y,Y,Y,Z,Z,Z,Z,Z,Z,Z,Z,Z,Z,Z,Z,Z,Z,Z,Z] ?_
            refine pu_ (i := 26) (N := some 82) #[Y,Y,Y,Y,Y,Y,Y,Y,Y,Y,Y,Y,Y,Y,Y,Y,Y,Y,Y,Y,Y,Y,Y,Y,Y,Y,Y,Z,Z,Z,Z,Z,Z,Z,Z,Z,Z,Z,Z,Z,Z,Z] ?_
            refine pu_ (i := 27) (N := some 83) #[Y,Y,Y,Y,Y,Y,Y,Y,Y,Y,Y,Y,Y,Y,Y,Y,Y,Y,Y,Y,Y,Y,Y,Y,Y,Y,Y,Y,Z,Z,Z,Z,Z,Z,Z,Z,Z,Z,Z,Z,Z,Z] ?_
            refine pu_ (i := 29) (N := some 85) #[Y,Y,Y,Y,Y,Y,Y,Y,Y,Y,Y,Y,Y,Y,Y,Y,Y,Y,Y,Y,Y,Y,Y,Y,Y,Y,Y,Y,Z,Y,Z,Z,Z,Z,Z,Z,Z,Z,Z,Z,Z,Z] ?_
            refine tk_ (i := 28) (N := some 84) (v := ?_) (a' := ?_) #[Y,Y,Y,Y,Y,Y,Y,Y,Y,Y,Y,Y,Y,Y,Y,Y,Y,Y,Y,Y,Y,Y,Y,Y,Y,Y,Y,Y,Y,Y,Z,Z,Z,Z,Z,Z,Z,Z,Z,Z,Z,Z] ?_ hHeld ?_ ?_
            rotate_left
            ·
             rintro w' ⟨s0, s1, s2, s3, s4, s5, s6, s7, s8, s9, s10, s11, s12, s13, s14, s15⟩
             go_simp
             with_reducible rfl
            rotate_left
            ·
             simp only [Act.put, List.setIfInBounds_toArray, List.set_cons_zero, List.set_cons_succ, i64_w, i32_w]
             rfl
            refine pu_ (i := 30) (N := some 86) #[Y,Y,Y,Y,Y,Y,Y,Y,Y,Y,Y,Y,Y,Y,Y,Y,Y,Y,Y,Y,Y,Y,Y,Y,Y,Y,Y,Y,Y,Y,Y,Z,Z,Z,Z,Z,Z,Z,Z,Z,Z,Z] ?_
            refine pu_ (i := 31) (N := some 87) #[Y,Y,Y,Y,Y,Y,Y,Y,Y,Y,Y,Y,Y,Y,Y,Y,Y,Y,Y,Y,Y,Y,Y,Y,Y,Y,Y,Y,Y,Y,Y,Y,Z,Z,Z,Z,Z,Z,Z,Z,Z,Z] ?_
            refine pu_ (i := 32) (N := some 88) #[Y,Y,Y,Y,Y,Y,Y,Y,Y,Y,Y,Y,Y,Y,Y,Y,Y,Y,Y,Y,Y,Y,Y,Y,Y,Y,Y,Y,Y,Y,Y,Y,Y,Z,Z,Z,Z,Z,Z,Z,Z,Z] ?_
            refine pu_ (i := 34) (N := some 90) #[Y,Y,Y,Y,Y,Y,Y,Y,Y,Y,Y,Y,Y,Y,Y,Y,Y,Y,Y,Y,Y,Y,Y,Y,Y,Y,Y,Y,Y,Y,Y,Y,Y,Z,Y,Z,Z,Z,Z,Z,Z,Z] ?_
            refine pu_ (i := 35) (N := some 91) #[Y,Y,Y,Y,Y,Y,Y,Y,Y,Y,Y,Y,Y,Y,Y,Y,Y,Y,Y,Y,Y,Y,Y,Y,Y,Y,Y,Y,Y,Y,Y,Y,Y,Z,Y,Y,Z,Z,Z,Z,Z,Z] ?_
            refine pu_ (i := 36) (N := some 92) #[Y,Y,Y,Y,Y,Y,Y,Y,Y,Y,Y,Y,Y,Y,Y,Y,Y,Y,Y,Y,Y,Y,Y,Y,Y,Y,Y,Y,Y,Y,Y,Y,Y,Z,Y,Y,Y,Z,Z,Z,Z,Z] ?_
            refine tk_ (i := 33) (N := some 89) (v := ?_) (a' := ?_) #[Y,Y,Y,Y,Y,Y,Y,Y,Y,Y,Y,Y,Y,Y,Y,Y,Y,Y,Y,Y,Y,Y,Y,Y,Y,Y,Y,Y,Y,Y,Y,Y,Y,Y,Y,Y,Y,Z,Z,Z,Z,Z] ?_ hHeld ?_ ?_
            rotate_left
            ·
             rintro w' ⟨s0, s1, s2, s3, s4, s5, s6, s7, s8, s9, s10, s11, s12, s13, s14, s15⟩
             go_simp
             with_reducible rfl
            rotate_left
            ·
             simp only [Act.put, List.setIfInBounds_toArray, List.set_cons_zero, List.set_cons_succ, i64_w, i32_w]
             rfl
            refine tk_ (i := 37) (N := some 93) (v := ?_) (a' := ?_) #[Y,Y,Y,Y,Y,Y,Y,Y,Y,Y,Y,Y,Y,Y,Y,Y,Y,Y,Y,Y,Y,Y,Y,Y,Y,Y,Y,Y,Y,Y,Y,Y,Y,Y,Y,Y,Y,Y,Z,Z,Z,Z] ?_ hHeld ?_ ?_
            rotate_left
            ·
             rintro w' ⟨s0, s1, s2, s3, s4, s5, s6, s7, s8, s9, s10, s11, s12, s13, s14, s15⟩
             go_simp
             with_reducible rfl
            rotate_left
            ·
             simp only [Act.put, List.setIfInBounds_toArray, List.set_cons_zero, List.set_cons_succ, i64_w, i32_w]
             rfl
            refine one_ (i := 38) (N := some 94) #[Y,Y,Y,Y,Y,Y,Y,Y,Y,Y,Y,Y,Y,Y,Y,Y,Y,Y,Y,Y,Y,Y,Y,Y,Y,Y,Y,Y,Y,Y,Y,Y,Y,Y,Y,Y,Y,Y,Y,Z,Z,Z] rfl rfl (one_of HT_.out (by kernel_rfl)) (by decide) (fun K hK => ?_)
            refine goes_ Tryd.func84 (by kernel_rfl) rfl #[.agg #[.int .i64 ((rd_T55 l0 a1).f0), .int .i64 ((rd_T55 l0 a1).f1), .int .i64 ((rd_T55 l0 a1).f2), .int .i64 ((rd_T55 l0 a1).f3), .int .i64 ((rd_T55 l0 a1).f4), .string ((rd_T55 l0 a1).f5), .string ((rd_T55 l0 a1).f6)]] (by rfl) rfl rfl (by (try simp only [List.map_toArray, List.map_cons, List.map_nil]); first | done | rfl | (simp only [List.length_drop, List.length_take]; rfl)) ?_
            with_reducible refine (spec_l16Param.calls ((rd_T55 l0 a1).f0) ((rd_T55 l0 a1).f1) ((rd_T55 l0 a1).f2) ((rd_T55 l0 a1).f3) ((rd_T55 l0 a1).f4) ((rd_T55 l0 a1).f5) ((rd_T55 l0 a1).f6) t294 _ A45.out).mono ?_
            rintro e w49 ⟨rfl, hb⟩
            refine ⟨_, rfl, ?_⟩
            replace HO_5 := Ad_.mk (Rb_ HO_5.out hb)
            replace BK290 := Ad_.mk (blk_below (g := gb290) (o := .cells #[.int .i64 t288, .int .i64 t289] 59 (0, 0)) (Ko_ BK290.out) hb)
            replace HB := Ad_.mk (bP_ (Bo_ HB.out GE290.out) hb)
            (try clear hb)
            (try clear hb2)
            (try clear hk)
            (try clear hi)
            refine hK.out _ _ ⟨(kC_ BK290.out 0).trans rfl, (kC_ BK290.out 1).trans rfl, ((HB.out.cell (World.block_lt_of_cell? w _ hw291_0)).trans hw291_0), ((HB.out.cell (World.block_lt_of_cell? w _ hw291_1)).trans hw291_1), ((HB.out.cell (World.block_lt_of_cell? w _ hw291_2)).trans hw291_2), ((HB.out.cell (World.block_lt_of_cell? w _ hw291_3)).trans hw291_3), ((HB.out.cell (World.block_lt_of_cell? w _ hw291_4)).trans hw291_4), ((HB.out.cell (World.block_lt_of_cell? w _ hw291_5)).trans hw291_5), ((HB.out.cell (World.block_lt_of_cell? w _ hw291_6)).trans hw291_6), ((HB.out.cell (World.block_lt_of_cell? w _ hw293_0)).trans hw293_0), ((HB.out.cell (World.block_lt_of_cell? w _ hw293_1)).trans hw293_1), ((HB.out.cell (World.block_lt_of_cell? w _ hw293_2)).trans hw293_2), ((HB.out.cell (World.block_lt_of_cell? w _ hw293_3)).trans hw293_3), ((HB.out.cell (World.block_lt_of_cell? w _ hw293_4)).trans hw293_4), ((HB.out.cell (World.block_lt_of_cell? w _ hw293_5)).trans hw293_5), ((HB.out.cell (World.block_lt_of_cell? w _ hw293_6)).trans hw293_6)⟩ (fun hHeld => ?_)
            clear hK K
            refine norm_ (a' := ?_) ?_ ?_
            rotate_left
            ·
             show Act.put _ (some 94) _ = _
             simp only [Act.put, List.setIfInBounds_toArray, List.set_cons_zero, List.set_cons_succ, i64_w, i32_w]
             rfl
            refine pu_ (i := 39) (N := some 95) #[Y,Y,Y,Y,Y,Y,Y,Y,Y,Y,Y,Y,Y,Y,Y,Y,Y,Y,Y,Y,Y,Y,Y,Y,Y,Y,Y,Y,Y,Y,Y,Y,Y,Y,Y,Y,Y,Y,Y,Y,Z,Z] ?_
            refine pu_ (i := 40) (N := some 96) #[Y,Y,Y,Y,Y,Y,Y,Y,Y,Y,Y,Y,Y,Y,Y,Y,Y,Y,Y,Y,Y,Y,Y,Y,Y,Y,Y,Y,Y,Y,Y,Y,Y,Y,Y,Y,Y,Y,Y,Y,Y,Z] ?_
            refine pu_ (i := 41) (N := some 97) #[Y,Y,Y,Y,Y,Y,Y,Y,Y,Y,Y,Y,Y,Y,Y,Y,Y,Y,Y,Y,Y,Y,Y,Y,Y,Y,Y,Y,Y,Y,Y,Y,Y,Y,Y,Y,Y,Y,Y,Y,Y,Y] ?_
            refine done_ (done_of HT_.out (by kernel_rfl)) ?_
            try go_wp2
            go_meet
            case rel => exact ⟨_, ((t289 == t294)), fs_, H', ⟨by have := HJ2.out; have := HK2.out; first | omega | exact Nat.le_refl _⟩, ⟨Ro_ HO_5.out⟩, ⟨Ko_ BK290.out⟩, ⟨Bo_ HB.out GE290.out⟩⟩
          case rest =>
            clear HC29
            try clear p2
            try clear q2
            try clear hx2
            try clear p29
            try clear q29
            try clear hx29
            try clear c66b0 c66b1
            try clear hx297_0
            try clear hx297_1
            try clear hx297_2
            try clear hx297_3
            try clear hx297_4
            try clear hx297_5
            try clear hx297_6
            try clear p297
            try clear q297
            obtain ⟨kq, x97_28, rfl, HA, HJ28, HO_5, BK290, HB⟩ := hcut
            cases kq with
            | zero => exact absurd HA.out (by simp [spec_OuterOf.j2])
            | succ kj28 =>
              have H := HA.out
              clear HA
              simp only [spec_OuterOf.j2] at H
              by_cases c73 : x97_28 = true
              ·
               subst c73
               have H1 := H
               rw [if_pos rfl] at H1
               clear H
               have H := H1
               clear H1
               have H' := Ad_.mk H
               clear H
               go_wp2
               go_roundg kj28
               case measure => have := HJ2.out; have := HK2.out; have := HJ28.out; omega
               case rel => exact ⟨(x5_2), (wrap64 (x6_2 + 1)), fs_, H', ⟨by have := HJ2.out; have := HK2.out; have := HJ28.out; omega⟩, ⟨by (with_reducible repeat (first | apply Kd.R_alloc | apply Kd.R_drewN | apply Kd.R_drew)); exact Kd.R_mono HO_5.out (fun _ hk => trivial)⟩, ⟨Bo_ HB.out GE290.out⟩⟩
              replace c73 := Bool.eq_false_iff.mpr c73
              subst c73
              have H1 : (spec_OuterOf.l1 kj28 l0 a1 x5_2 x6_2 false 0 t288 t289) = some r := by rw [if_neg (show ¬ (false = true) by decide)] at H; exact H
              clear H
              have H := H1
              clear H1
              have H' := Ad_.mk H
              clear H
              go_wp2
              go_loopg [8, 9] kj28 (fun kq v8 v9 w' => ∃ (x8_4 : Bool) (x9_4 : Int), v8 = .bool x8_4 ∧ v9 = .int .i64 x9_4 ∧ Ad_ (spec_OuterOf.l1 kq l0 a1 x5_2 x6_2 x8_4 x9_4 t288 t289 = some r) ∧ Ad_ (kq ≤ kj28) ∧ Ad_ (Kd.R k59 59 w' w.heap.size (fun k_ => k_ ≠ gb290) u5 x5_2) ∧ Ad_ (w'.heap[gb290]? = some (.cells #[.int .i64 t288, .int .i64 t289] 59 (0, 0))) ∧ Ad_ (Below w.heap.size w w'))
              case atStart => exact ⟨(false), (0), fs_, fs_, H', ⟨Nat.le_refl _⟩, ⟨Ro_ HO_5.out⟩, ⟨Ko_ BK290.out⟩, ⟨Bo_ HB.out GE290.out⟩⟩
              case round =>
                clear H'
                try clear p2
                try clear q2
                try clear hx2
                try clear p6
                try clear p29
                try clear q29
                try clear hx29
                try clear p64
                try clear c66b0 c66b1
                try clear hx297_0
                try clear hx297_1
                try clear hx297_2
                try clear hx297_3
                try clear hx297_4
                try clear hx297_5
                try clear hx297_6
                try clear p2
                try clear p29
                try clear p297
                try clear q2
                try clear q29
                try clear q297
                obtain ⟨x8_4, x9_4, rfl, rfl, HA, HK4, HO_5, BK290, HB⟩ := hrel
                cases gk with
                | zero => exact absurd HA.out (by simp [spec_OuterOf.l1])
                | succ k4 =>
                  have H := HA.out
                  clear HA
                  simp only [spec_OuterOf.l1] at H
                  by_cases c74 : x9_4 < (x5_2.length : Int)
                  rotate_left
                  ·
                   rw [if_neg c74] at H
                   have c74b0 := decide_eq_false c74
                   clear c74
                   by_cases c81 : x8_4 = true
                   ·
                    subst c81
                    have H1 := H
                    rw [if_pos rfl] at H1
                    clear H
                    have H := H1
                    clear H1
                    have H' := Ad_.mk H
                    clear H
                    obtain ⟨Ao82, co82, eo82⟩ := Kd.R_slice HO_5.out
                    subst eo82
                    go_wp2
                    go_roundg k4
                    case measure => have := HJ2.out; have := HK2.out; have := HJ28.out; have := HK4.out; omega
                    case rel => exact ⟨(x5_2), (wrap64 (x6_2 + 1)), fs_, H', ⟨by have := HJ2.out; have := HK2.out; have := HJ28.out; have := HK4.out; omega⟩, ⟨by (with_reducible repeat (first | apply Kd.R_alloc | apply Kd.R_drewN | apply Kd.R_drew)); exact Kd.R_mono HO_5.out (fun _ hk => trivial)⟩, ⟨Bo_ HB.out GE290.out⟩⟩
                   replace c81 := Bool.eq_false_iff.mpr c81
                   subst c81
                   have H1 : (if x5_2.length < 8796093022208 then (spec_OuterOf.l0 k4 l0 a1 (x5_2 ++ [(⟨t288, t289⟩ : S59)]) (wrap64 (x6_2 + 1))) else (none)) = some r := by rw [if_neg (show ¬ (false = true) by decide)] at H; exact H
                   clear H
                   have H := H1
                   clear H1
                   by_cases c83 : x5_2.length < 8796093022208
                   rotate_left
                   ·
                    rw [if_neg c83] at H
                    exact absurd H (by simp)
                   rw [if_pos c83] at H
                   have LMc83 := Ad_.mk c83
                   clear c83
                   obtain ⟨y300, hy300⟩ : ∃ y_ : List (S59), y_ = (x5_2 ++ [(⟨t288, t289⟩ : S59)]) := ⟨_, rfl⟩
                   replace H : (spec_OuterOf.l0 k4 l0 a1 y300 (wrap64 (x6_2 + 1))) = some r := by first | (rw [hy300]; with_reducible exact H) | (have H2_ := (Option.bind_some _ _).symm.trans H; rw [hy300]; with_reducible exact H2_) | (have H2_ := (Option.bind_some _ _).symm.trans H; with_reducible exact H2_) | with_reducible exact H | (rw [hy300]; exact H) | exact H
                   have Ny300 := Ad_.mk hy300
                   clear hy300
                   have H' := Ad_.mk H
                   clear H
                   obtain ⟨Ao84, co84, eo84⟩ := Kd.R_slice HO_5.out
                   subst eo84
                   obtain ⟨hcz85_0, hcz85_1⟩ := cells2_ BK290.out
                   obtain ⟨hfz85_0, hfz85_1⟩ := froz2_ BK290.out
                   go_wp2_with (first | ((with_reducible refine gB_ (b := .append) (xs := #[.tmp 115, .tmp 117]) rfl ?_); (try (refine gate_guard (by rfl) ?_; dsimp only)); at_builtin; refine Kd.R_append k59 (w0 := w) w.heap.size rfl (.tmp 115) (.tmp 117) 41 59 (.agg #[(.int .i64 0), (.int .i64 0)]) 16 rfl Tryd.underlying41 info59 rfl (by decide) (by omega) (.slice Ao84 x5_2.length co84) x5_2 (⟨t288, t289⟩ : S59) [.int .i64 t288, .int .i64 t289] (fun k_ => k_ ≠ gb290) (fun _ => False) rfl rfl ?aP (fun _ hk => hk.elim) ?aF ?aO ?aB ?aS ?aL ?_; (case aP => exact k59_mkM _ _ _ (⟨t288, t289⟩ : S59)); (case aB => exact (Bo_ HB.out GE290.out)); (case aF => exact (fun k_ hk => Kd.freshB (g := gb290) (o := .cells #[.int .i64 t288, .int .i64 t289] 59 (0, 0)) (Ko_ BK290.out) k_ hk)); (case aO => exact (Ro_ HO_5.out)); (case aS => exact (bZ_ (Bo_ HB.out GE290.out))); (case aL => have := LMc83.out; omega); intro v301 w86 ho hb hg hat; rw [← Ny300.out] at ho; have n0_ := Ad_.mk (blk_grown (g := gb290) (o := .cells #[.int .i64 t288, .int .i64 t289] 59 (0, 0)) (Ko_ BK290.out) hg (Kd.R_away HO_5.out (fun _ hk => hk))); have n1_ := Ad_.mk (hb); have n2_ := Ad_.mk (ho); clear BK290; clear HB; clear HO_5; have BK290 := n0_; have HB := n1_; have HO302 := n2_; clear n0_ n1_ n2_; clear ho hb hg hat))
                   go_roundg k4
                   case measure => have := HJ2.out; have := HK2.out; have := HJ28.out; have := HK4.out; omega
                   case rel => exact ⟨(y300), (wrap64 (x6_2 + 1)), fs_, H', ⟨by have := HJ2.out; have := HK2.out; have := HJ28.out; have := HK4.out; omega⟩, ⟨by (with_reducible repeat (first | apply Kd.R_alloc | apply Kd.R_drewN | apply Kd.R_drew)); exact Kd.R_mono HO302.out (fun _ hk => trivial)⟩, ⟨Bo_ HB.out GE290.out⟩⟩
                  rw [if_pos c74] at H
                  have c74b0 := decide_eq_true c74
                  clear c74
                  by_cases c75 : x8_4 = true
                  ·
                   subst c75
                   have H1 := H
                   rw [if_pos rfl] at H1
                   clear H
                   have H := H1
                   clear H1
                   have H' := Ad_.mk H
                   clear H
                   obtain ⟨Ao76, co76, eo76⟩ := Kd.R_slice HO_5.out
                   subst eo76
                   try go_wp2
                   replace HO_5 := Ad_.mk (Kd.R_drew HO_5.out)
                   replace BK290 := Ad_.mk (k1_ BK290.out)
                   replace HB := Ad_.mk (b1_ HB.out)
                   refine start_ (n := 10) (S := fun w' => True) (ds := []) #[Z,Z,Z,Z,Z,Z,Z,Z,Z,Z] (by kernel_rfl) rfl rfl trivial (fun hHeld => ?_); refine with_tabW spec_OuterOf.tab14 spec_OuterOf.bits14 (fun HT_ HW_ => ?_)
                   generalize wr.drew = w77 at HO_5 BK290 HB hHeld ⊢
                   refine pu_ (i := 0) (N := some 104) #[Y,Z,Z,Z,Z,Z,Z,Z,Z,Z] ?_
                   refine pu_ (i := 1) (N := some 105) #[Y,Y,Z,Z,Z,Z,Z,Z,Z,Z] ?_
                   refine pv_ (i := 2) (N := some 106) #[Y,Y,Y,Z,Z,Z,Z,Z,Z,Z] ?_
                   refine pv_ (i := 3) (N := some 107) #[Y,Y,Y,Y,Z,Z,Z,Z,Z,Z] ?_
                   refine pv_ (i := 4) (N := some 108) #[Y,Y,Y,Y,Y,Z,Z,Z,Z,Z] ?_
                   refine pv_ (i := 5) (N := some 109) #[Y,Y,Y,Y,Y,Y,Z,Z,Z,Z] ?_
                   refine pv_ (i := 6) (N := some 110) #[Y,Y,Y,Y,Y,Y,Y,Z,Z,Z] ?_
                   refine pv_ (i := 7) (N := some 111) #[Y,Y,Y,Y,Y,Y,Y,Y,Z,Z] ?_
                   refine pu_ (i := 8) (N := some 112) #[Y,Y,Y,Y,Y,Y,Y,Y,Y,Z] ?_
                   refine pu_ (i := 9) (N := some 8) #[Y,Y,Y,Y,Y,Y,Y,Y,Y,Y] ?_
                   refine done_ (done_of HT_.out (by kernel_rfl)) ?_
                   try go_wp2
                   go_roundg k4
                   case measure => have := HJ2.out; have := HK2.out; have := HJ28.out; have := HK4.out; omega
                   case rel => exact ⟨(true), (wrap64 (x9_4 + 1)), fs_, fs_, H', ⟨by have := HJ2.out; have := HK2.out; have := HJ28.out; have := HK4.out; omega⟩, ⟨Ro_ HO_5.out⟩, ⟨Ko_ BK290.out⟩, ⟨Bo_ HB.out GE290.out⟩⟩
                  replace c75 := Bool.eq_false_iff.mpr c75
                  subst c75
                  have H1 : (if 0 ≤ x9_4 then (spec_OuterOf.l1 k4 l0 a1 x5_2 x6_2 (((rd_T59 x5_2 x9_4).f0) == t288 && (((rd_T59 x5_2 x9_4).f1) == t289)) (wrap64 (x9_4 + 1)) t288 t289) else (none)) = some r := by rw [if_neg (show ¬ (false = true) by decide)] at H; exact H
                  clear H
                  have H := H1
                  clear H1
                  by_cases c78 : 0 ≤ x9_4
                  rotate_left
                  ·
                   rw [if_neg c78] at H
                   exact absurd H (by simp)
                  rw [if_pos c78] at H
                  have c78b0 := decide_eq_true c78
                  clear c78
                  have H' := Ad_.mk H
                  clear H
                  obtain ⟨Ao79, co79, eo79⟩ := Kd.R_slice HO_5.out
                  subst eo79
                  try go_wp2
                  replace HO_5 := Ad_.mk (Kd.R_drew HO_5.out)
                  replace BK290 := Ad_.mk (k1_ BK290.out)
                  replace HB := Ad_.mk (b1_ HB.out)
                  have p299 : 0 ≤ (x9_4 : Int) := od_
                  have q299 : x9_4 < (x5_2.length : Int) := od_
                  obtain ⟨ad299, e299, hx299_0, hx299_1⟩ := at_T59 (Kd.R_reads' HO_5.out).2.2 x9_4 p299 q299
                  cases e299
                  replace p299 := eq_true p299
                  replace q299 := eq_true q299
                  refine start_ (n := 10) (S := fun w' => w'.cell? ⟨gb290, 0, none⟩ = some (.int .i64 t288) ∧ w'.cell? ⟨gb290, 1, none⟩ = some (.int .i64 t289) ∧ w'.cell? (ad299.add ((x9_4).toNat * 2)) = some (.int .i64 ((rd_T59 x5_2 x9_4).f0)) ∧ w'.cell? ⟨(ad299.add ((x9_4).toNat * 2)).block, (ad299.add ((x9_4).toNat * 2)).off + 1, none⟩ = some (.int .i64 ((rd_T59 x5_2 x9_4).f1))) (ds := []) #[Z,Z,Z,Z,Z,Z,Z,Z,Z,Z] (by kernel_rfl) rfl rfl ⟨(kC_ BK290.out 0).trans rfl, (kC_ BK290.out 1).trans rfl, hx299_0, hx299_1⟩ (fun hHeld => ?_); refine with_tabW spec_OuterOf.tab14 spec_OuterOf.bits14 (fun HT_ HW_ => ?_)
                  generalize wr.drew = w80 at HO_5 BK290 HB hx299_0 hx299_1 hHeld ⊢
                  refine pu_ (i := 0) (N := some 104) #[Y,Z,Z,Z,Z,Z,Z,Z,Z,Z] ?_
                  refine pu_ (i := 1) (N := some 105) #[Y,Y,Z,Z,Z,Z,Z,Z,Z,Z] ?_
                  refine pu_ (i := 2) (N := some 106) #[Y,Y,Y,Z,Z,Z,Z,Z,Z,Z] ?_
                  refine pu_ (i := 3) (N := some 107) #[Y,Y,Y,Y,Z,Z,Z,Z,Z,Z] ?_
                  refine pu_ (i := 4) (N := some 108) #[Y,Y,Y,Y,Y,Z,Z,Z,Z,Z] ?_
                  refine tk_ (i := 5) (N := some 109) (v := ?_) (a' := ?_) #[Y,Y,Y,Y,Y,Y,Z,Z,Z,Z] ?_ hHeld ?_ ?_
                  rotate_left
                  ·
                   rintro w' ⟨s0, s1, s2, s3⟩
                   go_simp
                   with_reducible rfl
                  rotate_left
                  ·
                   simp only [Act.put, List.setIfInBounds_toArray, List.set_cons_zero, List.set_cons_succ, i64_w, i32_w]
                   rfl
                  refine tk_ (i := 6) (N := some 110) (v := ?_) (a' := ?_) #[Y,Y,Y,Y,Y,Y,Y,Z,Z,Z] ?_ hHeld ?_ ?_
                  rotate_left
                  ·
                   rintro w' ⟨s0, s1, s2, s3⟩
                   go_simp
                   with_reducible rfl
                  rotate_left
                  ·
                   simp only [Act.put, List.setIfInBounds_toArray, List.set_cons_zero, List.set_cons_succ, i64_w, i32_w]
                   rfl
                  refine pu_ (i := 7) (N := some 111) #[Y,Y,Y,Y,Y,Y,Y,Y,Z,Z] ?_
                  refine pu_ (i := 8) (N := some 112) #[Y,Y,Y,Y,Y,Y,Y,Y,Y,Z] ?_
                  refine pu_ (i := 9) (N := some 8) #[Y,Y,Y,Y,Y,Y,Y,Y,Y,Y] ?_
                  refine done_ (done_of HT_.out (by kernel_rfl)) ?_
                  try go_wp2
                  go_roundg k4
                  case measure => have := HJ2.out; have := HK2.out; have := HJ28.out; have := HK4.out; omega
                  case rel => exact ⟨((((rd_T59 x5_2 x9_4).f0) == t288 && (((rd_T59 x5_2 x9_4).f1) == t289))), (wrap64 (x9_4 + 1)), fs_, fs_, H', ⟨by have := HJ2.out; have := HK2.out; have := HJ28.out; have := HK4.out; omega⟩, ⟨Ro_ HO_5.out⟩, ⟨Ko_ BK290.out⟩, ⟨Bo_ HB.out GE290.out⟩⟩
end Go.Proofs.YtfmlamheflbgdaaDoor.PAll
end
