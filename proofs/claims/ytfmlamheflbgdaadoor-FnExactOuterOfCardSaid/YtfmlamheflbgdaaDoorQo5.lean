/- For each function of the Go program that is named here: its Lean function, and that Go comes to just its answer. Written by a program of the session out of the translation. -/
import Derived.Test.YtfmlamheflbgdaaDoorQo0
import Derived.Test.YtfmlamheflbgdaaDoorQo2
import Derived.Test.YtfmlamheflbgdaaDoorQo1
import Derived.Test.YtfmlamheflbgdaaDoorQo3
import Derived.Test.YtfmlamheflbgdaaDoorQo4
section
namespace Go.Proofs.YtfmlamheflbgdaaDoor.PAll
open Go.RowKit Go.Proofs.YtfmlamheflbgdaaDoorW.PrintWords Go.Proofs.YtfmlamheflbgdaaDoorW.PrintLast Go.Proofs.YtfmlamheflbgdaaDoorW.PrintMore
attribute [local go_sem] max2_int min2_int max_two min_two max_three min_three max_four min_four
set_option linter.unusedVariables false
set_option linter.unusedSimpArgs false
attribute [local go_sem high] eqA59
mutual
def impl_outerOf.l0 : Nat → List (S55) → List (S59) → Int → Int → Int → List (S59) → Int → Option ((List (S59)))
  | 0, _, _, _, _, _, _, _ => none
  | k + 1, x0, x1, x2, x7, x8, x9, x10 => if x10 ≤ x8 then (if 0 ≤ x10 then (if x10 < (x1.length : Int) then (if ((rd_T59 x1 x10).f0) < 0 then (impl_outerOf.j1 k x0 x1 x2 x7 x8 x9 x10 true ((rd_T59 x1 x10).f0) ((rd_T59 x1 x10).f1)) else ((impl_in.f ((rd_T59 x1 x10).f0) x7 x8).bind fun t363 => (if t363 = true then (impl_outerOf.j1 k x0 x1 x2 x7 x8 x9 x10 true ((rd_T59 x1 x10).f0) ((rd_T59 x1 x10).f1)) else ((impl_given.f x0 x2).bind fun bt364 => (impl_outerOf.j1 k x0 x1 x2 x7 x8 x9 x10 (((rd_T59 x1 x10).f0) == bt364.1 && (((rd_T59 x1 x10).f1) == bt364.2)) ((rd_T59 x1 x10).f0) ((rd_T59 x1 x10).f1)))))) else (none)) else (none)) else (some x9)
def impl_outerOf.j1 : Nat → List (S55) → List (S59) → Int → Int → Int → List (S59) → Int → Bool → Int → Int → Option ((List (S59)))
  | 0, _, _, _, _, _, _, _, _, _, _ => none
  | k + 1, x0, x1, x2, x7, x8, x9, x10, x12, x363000, x363001 => impl_outerOf.l1 k x0 x1 x2 x7 x8 x9 x10 x12 x9 (x9.length : Int) 0 x363000 x363001
def impl_outerOf.l1 : Nat → List (S55) → List (S59) → Int → Int → Int → List (S59) → Int → Bool → List (S59) → Int → Int → Int → Int → Option ((List (S59)))
  | 0, _, _, _, _, _, _, _, _, _, _, _, _, _ => none
  | k + 1, x0, x1, x2, x7, x8, x9, x10, x12, x48, x49, x50, x363000, x363001 => if x50 < x49 then (if 0 ≤ x50 then (if x50 < (x48.length : Int) then (if x12 = true then (impl_outerOf.l1 k x0 x1 x2 x7 x8 x9 x10 true x48 x49 (wrap64 (x50 + 1)) x363000 x363001) else (impl_outerOf.l1 k x0 x1 x2 x7 x8 x9 x10 (((rd_T59 x48 x50).f0) == x363000 && (((rd_T59 x48 x50).f1) == x363001)) x48 x49 (wrap64 (x50 + 1)) x363000 x363001)) else (none)) else (none)) else (if x12 = true then (impl_outerOf.l0 k x0 x1 x2 x7 x8 x9 (wrap64 (x10 + 1))) else (if x9.length < 8796093022208 then (impl_outerOf.l0 k x0 x1 x2 x7 x8 (x9 ++ [(⟨x363000, x363001⟩ : S59)]) (wrap64 (x10 + 1))) else (none)))
end
def impl_outerOf.f (k : Nat) (l0 : List (S55)) (l1 : List (S59)) (a2 : Int) : Option ((List (S59))) := (impl_bodyOf.f k l0 a2).bind fun bt359 => (impl_outerOf.l0 k l0 l1 a2 bt359.1 bt359.2 ([] : List (S59)) bt359.1)
def impl_outerOf.T7 : Bool × List (List Nat × List Nat) := (true, [([], []), ([0], [0]), ([1], [1]), ([2], [2]), ([3], [3]), ([4, 3], [3, 4]), ([3], [3]), ([3], [3]), ([5, 6, 7, 3, 3], [3, 5, 6, 7]), ([3, 8], [3, 8]), ([9, 8], [9]), ([10], [10]), ([10], [10]), ([10], [10]), ([12, 13, 10, 10], [10, 12, 13]), ([11, 14, 10], [10, 11, 14]), ([10, 15], [10, 15]), ([16, 14, 0, 1, 2, 3, 4, 5, 6, 7, 8, 9, 10, 11, 12, 13, 14, 15, 16], [16])])
def impl_outerOf.B7 : List Nat := [0, 1, 3, 7, 15, 31, 15, 15, 255, 511, 1023, 2047, 2047, 2047, 14335, 32767, 65535, 131071]
theorem impl_outerOf.tab7 : rtab .any (opsOf Tryd.f86 7) = impl_outerOf.T7 := by kernel_rfl
theorem impl_outerOf.bits7 : waitsOk impl_outerOf.T7.2 impl_outerOf.B7 = true := by kernel_rfl
set_option maxHeartbeats 8000000 in
set_option maxRecDepth 100000 in
theorem impl_outerOf.calls (k : Nat) (A0 : Option Addr) (c0 : Nat) (l0 : List (S55)) (A1 : Option Addr) (c1 : Nat) (l1 : List (S59)) (a2 : Int) (r : List (S59)) (w : World) (hr0 : Kd.C k55 w A0 l0.length l0) (hc0 : l0.length ≤ c0) (hr1 : Kd.C k59 w A1 l1.length l1) (hc1 : l1.length ≤ c1) (h : impl_outerOf.f k l0 l1 a2 = some r) :
    Calls Tryd.prog 86 #[.slice A0 l0.length c0, .slice A1 l1.length c1, .int .i64 a2] w fun e w' => ∃ v0_ : Value, e = .returned (v0_) ∧ Kd.R k59 59 w' w.heap.size (fun _ => True) v0_ r ∧ Below w.heap.size w w' := by
  have hu59 := Tryd.underlying59
  have HR0 := Ad_.mk hr0
  have HC0 := Ad_.mk hc0
  clear hr0 hc0
  have HR1 := Ad_.mk hr1
  have HC1 := Ad_.mk hc1
  clear hr1 hc1
  have HB := Ad_.mk (Below.refl w.heap.size w)
  have H := h
  unfold impl_outerOf.f at H
  clear h
  replace H := Option.bind_eq_some_iff.mp H
  obtain ⟨⟨t359, t360⟩, A40, H⟩ := H
  try dsimp only at H
  have A4 := Ad_.mk A40
  clear A40
  have H' := Ad_.mk H
  clear H
  go_enter Tryd.func86, Tryd.ntmps86
  go_wp2_with (first | ((with_reducible refine gC_ (f := 109) rfl ?_); refine gM_ (some 18) rfl rfl Tryd.func109 (by kernel_rfl) rfl #[.slice A0 l0.length c0, .int .i64 a2] rfl ?_; (with_reducible refine (impl_bodyOf.calls k _ _ l0 a2 t359 t360 _ ?side1 ?side2 A4.out).mono ?_); (case side1 => repeat (first | exact HR0.out | (with_reducible refine Kd.C_alloc ?_ _) | (with_reducible refine Kd.C_drewN ?_ _) | (with_reducible refine Kd.C_drew ?_))); (case side2 => exact HC0.out); rintro e w' ⟨rfl, ⟨nd, rfl⟩⟩; refine ⟨_, rfl, ?_⟩))
  go_loopg [9, 10] k (fun kq v9 v10 w' => ∃ (x9_1 : List (S59)) (x10_1 : Int), v10 = .int .i64 x10_1 ∧ Ad_ (impl_outerOf.l0 kq l0 l1 a2 t359 t360 x9_1 x10_1 = some r) ∧ Ad_ (kq ≤ k) ∧ Ad_ (Kd.R k59 59 w' w.heap.size (fun _ => True) v9 x9_1) ∧ Ad_ (Below w.heap.size w w'))
  case atStart => exact ⟨(([] : List (S59))), (t359), fs_, H', ⟨Nat.le_refl _⟩, ⟨by first | exact Kd.R_nil _ _ _ _ _ | exact Kd.N_nil _ _ _ _ _ | exact Kd.V_nil _ _ _ _ _ | exact Kd.Q_nil _ _ _ _ _ | exact Kd.S_nil _ _ _ _ _⟩, ⟨Bn_ HB.out⟩⟩
  case round =>
    clear H'
    try clear p2
    obtain ⟨x9_1, x10_1, rfl, HA, HK1, HO_9, HB⟩ := hrel
    cases gk with
    | zero => exact absurd HA.out (by simp [impl_outerOf.l0])
    | succ k1 =>
      have H := HA.out
      clear HA
      simp only [impl_outerOf.l0] at H
      by_cases c5 : x10_1 ≤ t360
      rotate_left
      ·
       rw [if_neg c5] at H
       have c5b0 := decide_eq_false c5
       clear c5
       obtain rfl := Option.some.inj H
       go_wp2
       go_ret
       exact ⟨_, er_, by (with_reducible repeat (first | apply Kd.R_alloc | apply Kd.R_drewN | apply Kd.R_drew)); exact HO_9.out, Bn_ HB.out⟩
      rw [if_pos c5] at H
      have c5b0 := decide_eq_true c5
      clear c5
      by_cases c6 : 0 ≤ x10_1
      rotate_left
      ·
       rw [if_neg c6] at H
       exact absurd H (by simp)
      rw [if_pos c6] at H
      have c6b0 := decide_eq_true c6
      clear c6
      by_cases c7 : x10_1 < (l1.length : Int)
      rotate_left
      ·
       rw [if_neg c7] at H
       exact absurd H (by simp)
      rw [if_pos c7] at H
      have c7b0 := decide_eq_true c7
      clear c7
      have HC8 := Ad_.mk H
      clear H
      have p361 : 0 ≤ (x10_1 : Int) := od_
      have q361 : x10_1 < (l1.length : Int) := od_
      obtain ⟨ad361, e361, hx361_0, hx361_1⟩ := at_T59 HR1.out x10_1 p361 q361
      cases e361
      replace hx361_0 := pB_ HB.out hx361_0
      replace hx361_1 := pB_ HB.out hx361_1
      replace p361 := eq_true p361
      replace q361 := eq_true q361
      go_upto_region 7 with (first | ((with_reducible refine gD_ (N := 11) rfl ?_); refine bE_ ?hg (N := 11) ?hd (cs := #[.int .i64 0, .int .i64 0]) (t := 59) ?hr ?_; (case hd => rfl); (case hg => rfl); (case hr => first | (go_simp; done) | (go_simp; rfl)); intro gb362 hg w9 hbox hb; have n0_ := Ad_.mk (Kd.R_below (Kd.R_elderB (Ro_ HO_9.out) gb362 (Nat.le_of_eq hg.symm)) hb); have n1_ := Ad_.mk (bQ_ HB.out hb); have n2_ := Ad_.mk (hbox); have n3_ := Ad_.mk ((by rw [hg]; exact (bZ_ (Bn_ HB.out)) : w.heap.size ≤ gb362)); have n4_ := Ad_.mk ((by rw [hg]; exact (bZ_ (Bn_ HB.out)) : w.heap.size ≤ gb362)); clear HO_9; clear HB; have HO_9 := n0_; have HB := n1_; have BK362 := n2_; have GW362 := n3_; have GE362 := n4_; clear n0_ n1_ n2_ n3_ n4_; clear hb hbox hg; obtain ⟨hcz10_0, hcz10_1⟩ := cells2_ BK362.out; obtain ⟨hfz10_0, hfz10_1⟩ := froz2_ BK362.out))
      (try simp only [Act.put, List.setIfInBounds_toArray, List.set_cons_zero, List.set_cons_succ])
      go_cut [12] (fun v12 wc => ∃ (kq : Nat) (x12_7 : Bool), v12 = .bool x12_7 ∧ Ad_ (impl_outerOf.j1 kq l0 l1 a2 t359 t360 x9_1 x10_1 x12_7 ((rd_T59 l1 x10_1).f0) ((rd_T59 l1 x10_1).f1) = some r) ∧ Ad_ (kq ≤ k1) ∧ Ad_ (Kd.R k59 59 wc w.heap.size (fun k_ => k_ ≠ gb362) u9 x9_1) ∧ Ad_ (wc.heap[gb362]? = some (.cells #[.int .i64 ((rd_T59 l1 x10_1).f0), .int .i64 ((rd_T59 l1 x10_1).f1)] 59 (0, 0))) ∧ Ad_ (Below w.heap.size w wc))
      case first =>
        have H := HC8.out
        clear HC8
        by_cases c11 : ((rd_T59 l1 x10_1).f0) < 0
        ·
         rw [if_pos c11] at H
         have c11b0 := decide_eq_true c11
         clear c11
         (first | rw [c11b0] | (simp only [i64_w, i32_w]; rw [c11b0]) | skip)
         have H' := Ad_.mk H
         clear H
         try go_wp2
         have n0_ : Ad_ (Kd.R k59 59 ((w9.setCell ⟨gb362, 0, none⟩ (.int .i64 ((rd_T59 l1 x10_1).f0))).setCell ⟨gb362, 1, none⟩ (.int .i64 ((rd_T59 l1 x10_1).f1))) w.heap.size (fun k_ => k_ ≠ gb362) u9 x9_1) := ⟨by (with_reducible repeat (first | apply Kd.R_alloc | apply Kd.R_drewN | apply Kd.R_drew)); exact Kd.R_mono (Kd.R_far (p := ⟨gb362, 1, none⟩) (Kd.R_far (p := ⟨gb362, 0, none⟩) (Kd.R_mono HO_9.out (fun k_ hk => (⟨hk, hk.2⟩ : _ ∧ k_ ≠ gb362))) (fun _ hk => hk.2) (.int .i64 ((rd_T59 l1 x10_1).f0))) (fun _ hk => hk.2) (.int .i64 ((rd_T59 l1 x10_1).f1))) (fun _ hk => hk.1.2)⟩
         have n1_ : Ad_ (((w9.setCell ⟨gb362, 0, none⟩ (.int .i64 ((rd_T59 l1 x10_1).f0))).setCell ⟨gb362, 1, none⟩ (.int .i64 ((rd_T59 l1 x10_1).f1))).heap[gb362]? = some (.cells #[.int .i64 ((rd_T59 l1 x10_1).f0), .int .i64 ((rd_T59 l1 x10_1).f1)] 59 (0, 0))) := ⟨by (with_reducible repeat (first | refine kN_ ?_ _ | refine k1_ ?_ | refine kA_ ?_ _)); refine blk_put (cs := #[.int .i64 ((rd_T59 l1 x10_1).f0), .int .i64 0]) ?_ 1 _ rfl; (with_reducible repeat (first | refine kN_ ?_ _ | refine k1_ ?_ | refine kA_ ?_ _)); refine blk_put (cs := #[.int .i64 0, .int .i64 0]) ?_ 0 _ rfl; (with_reducible repeat (first | refine kN_ ?_ _ | refine k1_ ?_ | refine kA_ ?_ _)); exact BK362.out⟩
         have n2_ : Ad_ (Below w.heap.size w ((w9.setCell ⟨gb362, 0, none⟩ (.int .i64 ((rd_T59 l1 x10_1).f0))).setCell ⟨gb362, 1, none⟩ (.int .i64 ((rd_T59 l1 x10_1).f1)))) := ⟨Bo_ HB.out GE362.out⟩
         (try clear HO_9)
         (try clear BK362)
         (try clear HB)
         generalize ((w9.setCell ⟨gb362, 0, none⟩ (.int .i64 ((rd_T59 l1 x10_1).f0))).setCell ⟨gb362, 1, none⟩ (.int .i64 ((rd_T59 l1 x10_1).f1))) = w12 at n0_ n1_ n2_ ⊢
         have HO_9 := n0_
         have BK362 := n1_
         have HB := n2_
         clear n0_ n1_ n2_
         replace HO_9 := Ad_.mk (Kd.R_drew HO_9.out)
         replace BK362 := Ad_.mk (k1_ BK362.out)
         replace HB := Ad_.mk (b1_ HB.out)
         refine start_ (n := 18) (S := fun w' => w'.cell? ⟨gb362, 0, none⟩ = some (.int .i64 ((rd_T59 l1 x10_1).f0)) ∧ w'.cell? ⟨gb362, 1, none⟩ = some (.int .i64 ((rd_T59 l1 x10_1).f1))) (ds := []) #[Z,Z,Z,Z,Z,Z,Z,Z,Z,Z,Z,Z,Z,Z,Z,Z,Z,Z] (by kernel_rfl) rfl rfl ⟨(kC_ BK362.out 0).trans rfl, (kC_ BK362.out 1).trans rfl⟩ (fun hHeld => ?_); refine with_tabW impl_outerOf.tab7 impl_outerOf.bits7 (fun HT_ HW_ => ?_)
         generalize w12.drew = w13 at HO_9 BK362 HB hHeld ⊢
         refine pu_ (i := 0) (N := some 31) #[Y,Z,Z,Z,Z,Z,Z,Z,Z,Z,Z,Z,Z,Z,Z,Z,Z,Z] ?_
         refine tk_ (i := 1) (N := some 32) (v := ?_) (a' := ?_) #[Y,Y,Z,Z,Z,Z,Z,Z,Z,Z,Z,Z,Z,Z,Z,Z,Z,Z] ?_ hHeld ?_ ?_
         rotate_left
         ·
          rintro w' ⟨s0, s1⟩
          go_simp
          with_reducible rfl
         rotate_left
         ·
          simp only [Act.put, List.setIfInBounds_toArray, List.set_cons_zero, List.set_cons_succ, i64_w, i32_w]
          rfl
         refine pu_ (i := 2) (N := some 33) #[Y,Y,Y,Z,Z,Z,Z,Z,Z,Z,Z,Z,Z,Z,Z,Z,Z,Z] ?_
         refine pu_ (i := 3) (N := some 34) #[Y,Y,Y,Y,Z,Z,Z,Z,Z,Z,Z,Z,Z,Z,Z,Z,Z,Z] ?_
         refine pv_ (i := 4) (N := some 35) #[Y,Y,Y,Y,Y,Z,Z,Z,Z,Z,Z,Z,Z,Z,Z,Z,Z,Z] ?_
         refine pv_ (i := 5) (N := some 36) #[Y,Y,Y,Y,Y,Y,Z,Z,Z,Z,Z,Z,Z,Z,Z,Z,Z,Z] ?_
         refine pv_ (i := 6) (N := some 37) #[Y,Y,Y,Y,Y,Y,Y,Z,Z,Z,Z,Z,Z,Z,Z,Z,Z,Z] ?_
         refine pv_ (i := 7) (N := some 38) #[Y,Y,Y,Y,Y,Y,Y,Y,Z,Z,Z,Z,Z,Z,Z,Z,Z,Z] ?_
         refine pv_ (i := 8) (N := some 39) #[Y,Y,Y,Y,Y,Y,Y,Y,Y,Z,Z,Z,Z,Z,Z,Z,Z,Z] ?_
         refine pu_ (i := 9) (N := some 40) #[Y,Y,Y,Y,Y,Y,Y,Y,Y,Y,Z,Z,Z,Z,Z,Z,Z,Z] ?_
         refine pu_ (i := 10) (N := some 41) #[Y,Y,Y,Y,Y,Y,Y,Y,Y,Y,Y,Z,Z,Z,Z,Z,Z,Z] ?_
         refine pv_ (i := 11) (N := some 42) #[Y,Y,Y,Y,Y,Y,Y,Y,Y,Y,Y,Y,Z,Z,Z,Z,Z,Z] ?_
         refine pv_ (i := 12) (N := some 43) #[Y,Y,Y,Y,Y,Y,Y,Y,Y,Y,Y,Y,Y,Z,Z,Z,Z,Z] ?_
         refine pv_ (i := 13) (N := some 44) #[Y,Y,Y,Y,Y,Y,Y,Y,Y,Y,Y,Y,Y,Y,Z,Z,Z,Z] ?_
         refine pv_ (i := 14) (N := some 45) #[Y,Y,Y,Y,Y,Y,Y,Y,Y,Y,Y,Y,Y,Y,Y,Z,Z,Z] ?_
         refine pv_ (i := 15) (N := some 46) #[Y,Y,Y,Y,Y,Y,Y,Y,Y,Y,Y,Y,Y,Y,Y,Y,Z,Z] ?_
         refine pu_ (i := 16) (N := some 47) #[Y,Y,Y,Y,Y,Y,Y,Y,Y,Y,Y,Y,Y,Y,Y,Y,Y,Z] ?_
         refine pu_ (i := 17) (N := some 12) #[Y,Y,Y,Y,Y,Y,Y,Y,Y,Y,Y,Y,Y,Y,Y,Y,Y,Y] ?_
         refine done_ (done_of HT_.out (by kernel_rfl)) ?_
         try go_wp2
         go_meet
         case rel => exact ⟨_, (true), fs_, H', ⟨by have := HK1.out; first | omega | exact Nat.le_refl _⟩, ⟨Ro_ HO_9.out⟩, ⟨Ko_ BK362.out⟩, ⟨Bo_ HB.out GE362.out⟩⟩
        rw [if_neg c11] at H
        have c11b0 := decide_eq_false c11
        clear c11
        (first | rw [c11b0] | (simp only [i64_w, i32_w]; rw [c11b0]) | skip)
        replace H := Option.bind_eq_some_iff.mp H
        obtain ⟨t363, A140, H⟩ := H
        try dsimp only at H
        have A14 := Ad_.mk A140
        clear A140
        by_cases c15 : t363 = true
        ·
         subst c15
         have H1 := H
         rw [if_pos rfl] at H1
         clear H
         have H := H1
         clear H1
         have H' := Ad_.mk H
         clear H
         try go_wp2
         have n0_ : Ad_ (Kd.R k59 59 ((w9.setCell ⟨gb362, 0, none⟩ (.int .i64 ((rd_T59 l1 x10_1).f0))).setCell ⟨gb362, 1, none⟩ (.int .i64 ((rd_T59 l1 x10_1).f1))) w.heap.size (fun k_ => k_ ≠ gb362) u9 x9_1) := ⟨by (with_reducible repeat (first | apply Kd.R_alloc | apply Kd.R_drewN | apply Kd.R_drew)); exact Kd.R_mono (Kd.R_far (p := ⟨gb362, 1, none⟩) (Kd.R_far (p := ⟨gb362, 0, none⟩) (Kd.R_mono HO_9.out (fun k_ hk => (⟨hk, hk.2⟩ : _ ∧ k_ ≠ gb362))) (fun _ hk => hk.2) (.int .i64 ((rd_T59 l1 x10_1).f0))) (fun _ hk => hk.2) (.int .i64 ((rd_T59 l1 x10_1).f1))) (fun _ hk => hk.1.2)⟩
         have n1_ : Ad_ (((w9.setCell ⟨gb362, 0, none⟩ (.int .i64 ((rd_T59 l1 x10_1).f0))).setCell ⟨gb362, 1, none⟩ (.int .i64 ((rd_T59 l1 x10_1).f1))).heap[gb362]? = some (.cells #[.int .i64 ((rd_T59 l1 x10_1).f0), .int .i64 ((rd_T59 l1 x10_1).f1)] 59 (0, 0))) := ⟨by (with_reducible repeat (first | refine kN_ ?_ _ | refine k1_ ?_ | refine kA_ ?_ _)); refine blk_put (cs := #[.int .i64 ((rd_T59 l1 x10_1).f0), .int .i64 0]) ?_ 1 _ rfl; (with_reducible repeat (first | refine kN_ ?_ _ | refine k1_ ?_ | refine kA_ ?_ _)); refine blk_put (cs := #[.int .i64 0, .int .i64 0]) ?_ 0 _ rfl; (with_reducible repeat (first | refine kN_ ?_ _ | refine k1_ ?_ | refine kA_ ?_ _)); exact BK362.out⟩
         have n2_ : Ad_ (Below w.heap.size w ((w9.setCell ⟨gb362, 0, none⟩ (.int .i64 ((rd_T59 l1 x10_1).f0))).setCell ⟨gb362, 1, none⟩ (.int .i64 ((rd_T59 l1 x10_1).f1)))) := ⟨Bo_ HB.out GE362.out⟩
         (try clear HO_9)
         (try clear BK362)
         (try clear HB)
         generalize ((w9.setCell ⟨gb362, 0, none⟩ (.int .i64 ((rd_T59 l1 x10_1).f0))).setCell ⟨gb362, 1, none⟩ (.int .i64 ((rd_T59 l1 x10_1).f1))) = w16 at n0_ n1_ n2_ ⊢
         have HO_9 := n0_
         have BK362 := n1_
         have HB := n2_
         clear n0_ n1_ n2_
         replace HO_9 := Ad_.mk (Kd.R_drew HO_9.out)
         replace BK362 := Ad_.mk (k1_ BK362.out)
         replace HB := Ad_.mk (b1_ HB.out)
         refine start_ (n := 18) (S := fun w' => w'.cell? ⟨gb362, 0, none⟩ = some (.int .i64 ((rd_T59 l1 x10_1).f0)) ∧ w'.cell? ⟨gb362, 1, none⟩ = some (.int .i64 ((rd_T59 l1 x10_1).f1))) (ds := []) #[Z,Z,Z,Z,Z,Z,Z,Z,Z,Z,Z,Z,Z,Z,Z,Z,Z,Z] (by kernel_rfl) rfl rfl ⟨(kC_ BK362.out 0).trans rfl, (kC_ BK362.out 1).trans rfl⟩ (fun hHeld => ?_); refine with_tabW impl_outerOf.tab7 impl_outerOf.bits7 (fun HT_ HW_ => ?_)
         generalize w16.drew = w17 at HO_9 BK362 HB hHeld ⊢
         refine pu_ (i := 0) (N := some 31) #[Y,Z,Z,Z,Z,Z,Z,Z,Z,Z,Z,Z,Z,Z,Z,Z,Z,Z] ?_
         refine tk_ (i := 1) (N := some 32) (v := ?_) (a' := ?_) #[Y,Y,Z,Z,Z,Z,Z,Z,Z,Z,Z,Z,Z,Z,Z,Z,Z,Z] ?_ hHeld ?_ ?_
         rotate_left
         ·
          rintro w' ⟨s0, s1⟩
          go_simp
          with_reducible rfl
         rotate_left
         ·
          simp only [Act.put, List.setIfInBounds_toArray, List.set_cons_zero, List.set_cons_succ, i64_w, i32_w]
          rfl
         refine pu_ (i := 2) (N := some 33) #[Y,Y,Y,Z,Z,Z,Z,Z,Z,Z,Z,Z,Z,Z,Z,Z,Z,Z] ?_
         refine pu_ (i := 3) (N := some 34) #[Y,Y,Y,Y,Z,Z,Z,Z,Z,Z,Z,Z,Z,Z,Z,Z,Z,Z] ?_
         refine pu_ (i := 4) (N := some 35) #[Y,Y,Y,Y,Y,Z,Z,Z,Z,Z,Z,Z,Z,Z,Z,Z,Z,Z] ?_
         refine pu_ (i := 6) (N := some 37) #[Y,Y,Y,Y,Y,Z,Y,Z,Z,Z,Z,Z,Z,Z,Z,Z,Z,Z] ?_
         refine pu_ (i := 7) (N := some 38) #[Y,Y,Y,Y,Y,Z,Y,Y,Z,Z,Z,Z,Z,Z,Z,Z,Z,Z] ?_
         refine tk_ (i := 5) (N := some 36) (v := ?_) (a' := ?_) #[Y,Y,Y,Y,Y,Y,Y,Y,Z,Z,Z,Z,Z,Z,Z,Z,Z,Z] ?_ hHeld ?_ ?_
         rotate_left
         ·
          rintro w' ⟨s0, s1⟩
          go_simp
          with_reducible rfl
         rotate_left
         ·
          simp only [Act.put, List.setIfInBounds_toArray, List.set_cons_zero, List.set_cons_succ, i64_w, i32_w]
          rfl
         refine one_ (i := 8) (N := some 39) #[Y,Y,Y,Y,Y,Y,Y,Y,Y,Z,Z,Z,Z,Z,Z,Z,Z,Z] rfl rfl (one_of HT_.out (by kernel_rfl)) (by decide) (fun K hK => ?_)
         refine goes_ Tryd.func71 (by kernel_rfl) rfl #[.int .i64 ((rd_T59 l1 x10_1).f0), .int .i64 t359, .int .i64 t360] (by rfl) rfl rfl (by (try simp only [List.map_toArray, List.map_cons, List.map_nil]); first | done | rfl | (simp only [List.length_drop, List.length_take]; rfl)) ?_
         with_reducible refine (impl_in.calls ((rd_T59 l1 x10_1).f0) t359 t360 true _ A14.out).mono ?_
         rintro e w' ⟨rfl, ⟨nd, rfl⟩⟩
         refine ⟨_, rfl, ?_⟩
         refine hK.out _ _ ⟨(kC_ BK362.out 0).trans rfl, (kC_ BK362.out 1).trans rfl⟩ (fun hHeld => ?_)
         clear hK K
         refine norm_ (a' := ?_) ?_ ?_
         rotate_left
         ·
          show Act.put _ (some 39) _ = _
          simp only [Act.put, List.setIfInBounds_toArray, List.set_cons_zero, List.set_cons_succ, i64_w, i32_w]
          rfl
         refine pu_ (i := 9) (N := some 40) #[Y,Y,Y,Y,Y,Y,Y,Y,Y,Y,Z,Z,Z,Z,Z,Z,Z,Z] ?_
         refine pu_ (i := 10) (N := some 41) #[Y,Y,Y,Y,Y,Y,Y,Y,Y,Y,Y,Z,Z,Z,Z,Z,Z,Z] ?_
         refine pv_ (i := 11) (N := some 42) #[Y,Y,Y,Y,Y,Y,Y,Y,Y,Y,Y,Y,Z,Z,Z,Z,Z,Z] ?_
         refine pv_ (i := 12) (N := some 43) #[Y,Y,Y,Y,Y,Y,Y,Y,Y,Y,Y,Y,Y,Z,Z,Z,Z,Z] ?_
         refine pv_ (i := 13) (N := some 44) #[Y,Y,Y,Y,Y,Y,Y,Y,Y,Y,Y,Y,Y,Y,Z,Z,Z,Z] ?_
         refine pv_ (i := 14) (N := some 45) #[Y,Y,Y,Y,Y,Y,Y,Y,Y,Y,Y,Y,Y,Y,Y,Z,Z,Z] ?_
         refine pv_ (i := 15) (N := some 46) #[Y,Y,Y,Y,Y,Y,Y,Y,Y,Y,Y,Y,Y,Y,Y,Y,Z,Z] ?_
         refine pu_ (i := 16) (N := some 47) #[Y,Y,Y,Y,Y,Y,Y,Y,Y,Y,Y,Y,Y,Y,Y,Y,Y,Z] ?_
         refine pu_ (i := 17) (N := some 12) #[Y,Y,Y,Y,Y,Y,Y,Y,Y,Y,Y,Y,Y,Y,Y,Y,Y,Y] ?_
         refine done_ (done_of HT_.out (by kernel_rfl)) ?_
         try go_wp2
         go_meet
         case rel => exact ⟨_, (true), fs_, H', ⟨by have := HK1.out; first | omega | exact Nat.le_refl _⟩, ⟨Ro_ HO_9.out⟩, ⟨Ko_ BK362.out⟩, ⟨Bo_ HB.out GE362.out⟩⟩
        replace c15 := Bool.eq_false_iff.mpr c15
        subst c15
        have H1 : ((impl_given.f l0 a2).bind fun bt364 => (impl_outerOf.j1 k1 l0 l1 a2 t359 t360 x9_1 x10_1 (((rd_T59 l1 x10_1).f0) == bt364.1 && (((rd_T59 l1 x10_1).f1) == bt364.2)) ((rd_T59 l1 x10_1).f0) ((rd_T59 l1 x10_1).f1))) = some r := by rw [if_neg (show ¬ (false = true) by decide)] at H; exact H
        clear H
        have H := H1
        clear H1
        replace H := Option.bind_eq_some_iff.mp H
        obtain ⟨⟨t364, t365⟩, A180, H⟩ := H
        try dsimp only at H
        have A18 := Ad_.mk A180
        clear A180
        have H' := Ad_.mk H
        clear H
        try go_wp2
        have n0_ : Ad_ (Kd.R k59 59 ((w9.setCell ⟨gb362, 0, none⟩ (.int .i64 ((rd_T59 l1 x10_1).f0))).setCell ⟨gb362, 1, none⟩ (.int .i64 ((rd_T59 l1 x10_1).f1))) w.heap.size (fun k_ => k_ ≠ gb362) u9 x9_1) := ⟨by (with_reducible repeat (first | apply Kd.R_alloc | apply Kd.R_drewN | apply Kd.R_drew)); exact Kd.R_mono (Kd.R_far (p := ⟨gb362, 1, none⟩) (Kd.R_far (p := ⟨gb362, 0, none⟩) (Kd.R_mono HO_9.out (fun k_ hk => (⟨hk, hk.2⟩ : _ ∧ k_ ≠ gb362))) (fun _ hk => hk.2) (.int .i64 ((rd_T59 l1 x10_1).f0))) (fun _ hk => hk.2) (.int .i64 ((rd_T59 l1 x10_1).f1))) (fun _ hk => hk.1.2)⟩
        have n1_ : Ad_ (((w9.setCell ⟨gb362, 0, none⟩ (.int .i64 ((rd_T59 l1 x10_1).f0))).setCell ⟨gb362, 1, none⟩ (.int .i64 ((rd_T59 l1 x10_1).f1))).heap[gb362]? = some (.cells #[.int .i64 ((rd_T59 l1 x10_1).f0), .int .i64 ((rd_T59 l1 x10_1).f1)] 59 (0, 0))) := ⟨by (with_reducible repeat (first | refine kN_ ?_ _ | refine k1_ ?_ | refine kA_ ?_ _)); refine blk_put (cs := #[.int .i64 ((rd_T59 l1 x10_1).f0), .int .i64 0]) ?_ 1 _ rfl; (with_reducible repeat (first | refine kN_ ?_ _ | refine k1_ ?_ | refine kA_ ?_ _)); refine blk_put (cs := #[.int .i64 0, .int .i64 0]) ?_ 0 _ rfl; (with_reducible repeat (first | refine kN_ ?_ _ | refine k1_ ?_ | refine kA_ ?_ _)); exact BK362.out⟩
        have n2_ : Ad_ (Below w.heap.size w ((w9.setCell ⟨gb362, 0, none⟩ (.int .i64 ((rd_T59 l1 x10_1).f0))).setCell ⟨gb362, 1, none⟩ (.int .i64 ((rd_T59 l1 x10_1).f1)))) := ⟨Bo_ HB.out GE362.out⟩
        (try clear HO_9)
        (try clear BK362)
        (try clear HB)
        generalize ((w9.setCell ⟨gb362, 0, none⟩ (.int .i64 ((rd_T59 l1 x10_1).f0))).setCell ⟨gb362, 1, none⟩ (.int .i64 ((rd_T59 l1 x10_1).f1))) = w19 at n0_ n1_ n2_ ⊢
        have HO_9 := n0_
        have BK362 := n1_
        have HB := n2_
        clear n0_ n1_ n2_
        replace HO_9 := Ad_.mk (Kd.R_drew HO_9.out)
        replace BK362 := Ad_.mk (k1_ BK362.out)
        replace HB := Ad_.mk (b1_ HB.out)
        refine start_ (n := 18) (S := fun w' => w'.cell? ⟨gb362, 0, none⟩ = some (.int .i64 ((rd_T59 l1 x10_1).f0)) ∧ w'.cell? ⟨gb362, 1, none⟩ = some (.int .i64 ((rd_T59 l1 x10_1).f1))) (ds := []) #[Z,Z,Z,Z,Z,Z,Z,Z,Z,Z,Z,Z,Z,Z,Z,Z,Z,Z] (by kernel_rfl) rfl rfl ⟨(kC_ BK362.out 0).trans rfl, (kC_ BK362.out 1).trans rfl⟩ (fun hHeld => ?_); refine with_tabW impl_outerOf.tab7 impl_outerOf.bits7 (fun HT_ HW_ => ?_)
        generalize w19.drew = w20 at HO_9 BK362 HB hHeld ⊢
        refine pu_ (i := 0) (N := some 31) #[Y,Z,Z,Z,Z,Z,Z,Z,Z,Z,Z,Z,Z,Z,Z,Z,Z,Z] ?_
        refine tk_ (i := 1) (N := some 32) (v := ?_) (a' := ?_) #[Y,Y,Z,Z,Z,Z,Z,Z,Z,Z,Z,Z,Z,Z,Z,Z,Z,Z] ?_ hHeld ?_ ?_
        rotate_left
        ·
         rintro w' ⟨s0, s1⟩
         go_simp
         with_reducible rfl
        rotate_left
        ·
         simp only [Act.put, List.setIfInBounds_toArray, List.set_cons_zero, List.set_cons_succ, i64_w, i32_w]
         rfl
        refine pu_ (i := 2) (N := some 33) #[Y,Y,Y,Z,Z,Z,Z,Z,Z,Z,Z,Z,Z,Z,Z,Z,Z,Z] ?_
        refine pu_ (i := 3) (N := some 34) #[Y,Y,Y,Y,Z,Z,Z,Z,Z,Z,Z,Z,Z,Z,Z,Z,Z,Z] ?_
        refine pu_ (i := 4) (N := some 35) #[Y,Y,Y,Y,Y,Z,Z,Z,Z,Z,Z,Z,Z,Z,Z,Z,Z,Z] ?_
        refine pu_ (i := 6) (N := some 37) #[Y,Y,Y,Y,Y,Z,Y,Z,Z,Z,Z,Z,Z,Z,Z,Z,Z,Z] ?_
        refine pu_ (i := 7) (N := some 38) #[Y,Y,Y,Y,Y,Z,Y,Y,Z,Z,Z,Z,Z,Z,Z,Z,Z,Z] ?_
        refine tk_ (i := 5) (N := some 36) (v := ?_) (a' := ?_) #[Y,Y,Y,Y,Y,Y,Y,Y,Z,Z,Z,Z,Z,Z,Z,Z,Z,Z] ?_ hHeld ?_ ?_
        rotate_left
        ·
         rintro w' ⟨s0, s1⟩
         go_simp
         with_reducible rfl
        rotate_left
        ·
         simp only [Act.put, List.setIfInBounds_toArray, List.set_cons_zero, List.set_cons_succ, i64_w, i32_w]
         rfl
        refine one_ (i := 8) (N := some 39) #[Y,Y,Y,Y,Y,Y,Y,Y,Y,Z,Z,Z,Z,Z,Z,Z,Z,Z] rfl rfl (one_of HT_.out (by kernel_rfl)) (by decide) (fun K hK => ?_)
        refine goes_ Tryd.func71 (by kernel_rfl) rfl #[.int .i64 ((rd_T59 l1 x10_1).f0), .int .i64 t359, .int .i64 t360] (by rfl) rfl rfl (by (try simp only [List.map_toArray, List.map_cons, List.map_nil]); first | done | rfl | (simp only [List.length_drop, List.length_take]; rfl)) ?_
        with_reducible refine (impl_in.calls ((rd_T59 l1 x10_1).f0) t359 t360 false _ A14.out).mono ?_
        rintro e w' ⟨rfl, ⟨nd, rfl⟩⟩
        refine ⟨_, rfl, ?_⟩
        refine hK.out _ _ ⟨(kC_ BK362.out 0).trans rfl, (kC_ BK362.out 1).trans rfl⟩ (fun hHeld => ?_)
        clear hK K
        refine norm_ (a' := ?_) ?_ ?_
        rotate_left
        ·
         show Act.put _ (some 39) _ = _
         simp only [Act.put, List.setIfInBounds_toArray, List.set_cons_zero, List.set_cons_succ, i64_w, i32_w]
         rfl
        refine pu_ (i := 9) (N := some 40) #[Y,Y,Y,Y,Y,Y,Y,Y,Y,Y,Z,Z,Z,Z,Z,Z,Z,Z] ?_
        refine pu_ (i := 10) (N := some 41) #[Y,Y,Y,Y,Y,Y,Y,Y,Y,Y,Y,Z,Z,Z,Z,Z,Z,Z] ?_
        refine pu_ (i := 12) (N := some 43) #[Y,Y,Y,Y,Y,Y,Y,Y,Y,Y,Y,Z,Y,Z,Z,Z,Z,Z] ?_
        refine pu_ (i := 13) (N := some 44) #[Y,Y,Y,Y,Y,Y,Y,Y,Y,Y,Y,Z,Y,Y,Z,Z,Z,Z] ?_
        refine tk_ (i := 11) (N := some 42) (v := ?_) (a' := ?_) #[Y,Y,Y,Y,Y,Y,Y,Y,Y,Y,Y,Y,Y,Y,Z,Z,Z,Z] ?_ hHeld ?_ ?_
        rotate_left
        ·
         rintro w' ⟨s0, s1⟩
         go_simp
         with_reducible rfl
        rotate_left
        ·
         simp only [Act.put, List.setIfInBounds_toArray, List.set_cons_zero, List.set_cons_succ, i64_w, i32_w]
         rfl
        refine one_ (i := 14) (N := some 45) #[Y,Y,Y,Y,Y,Y,Y,Y,Y,Y,Y,Y,Y,Y,Y,Z,Z,Z] rfl rfl (one_of HT_.out (by kernel_rfl)) (by decide) (fun K hK => ?_)
        refine goes_ Tryd.func110 (by kernel_rfl) rfl #[.slice A0 l0.length c0, .int .i64 a2] (by rfl) rfl rfl (by (try simp only [List.map_toArray, List.map_cons, List.map_nil]); first | done | rfl | (simp only [List.length_drop, List.length_take]; rfl)) ?_
        with_reducible refine (impl_given.calls _ _ l0 a2 t364 t365 _ ?side1 ?side2 A18.out).mono ?_
        (case side1 => repeat (first | exact (Kd.C_below HR0.out (Bo_ HB.out GE362.out)) | (with_reducible refine Kd.C_alloc ?_ _) | (with_reducible refine Kd.C_drewN ?_ _) | (with_reducible refine Kd.C_drew ?_)))
        (case side2 => exact HC0.out)
        rintro e w21 ⟨rfl, hb⟩
        refine ⟨_, rfl, ?_⟩
        replace HO_9 := Ad_.mk (Rb_ HO_9.out hb)
        replace BK362 := Ad_.mk (blk_below (g := gb362) (o := .cells #[.int .i64 ((rd_T59 l1 x10_1).f0), .int .i64 ((rd_T59 l1 x10_1).f1)] 59 (0, 0)) (Ko_ BK362.out) hb)
        replace HB := Ad_.mk (bP_ (Bo_ HB.out GE362.out) hb)
        (try clear hb)
        (try clear hb2)
        (try clear hk)
        (try clear hi)
        refine hK.out _ _ ⟨(kC_ BK362.out 0).trans rfl, (kC_ BK362.out 1).trans rfl⟩ (fun hHeld => ?_)
        clear hK K
        refine norm_ (a' := ?_) ?_ ?_
        rotate_left
        ·
         show Act.put _ (some 45) _ = _
         simp only [Act.put, List.setIfInBounds_toArray, List.set_cons_zero, List.set_cons_succ, i64_w, i32_w]
         rfl
        refine pu_ (i := 15) (N := some 46) #[Y,Y,Y,Y,Y,Y,Y,Y,Y,Y,Y,Y,Y,Y,Y,Y,Z,Z] ?_
        refine pu_ (i := 16) (N := some 47) #[Y,Y,Y,Y,Y,Y,Y,Y,Y,Y,Y,Y,Y,Y,Y,Y,Y,Z] ?_
        refine pu_ (i := 17) (N := some 12) #[Y,Y,Y,Y,Y,Y,Y,Y,Y,Y,Y,Y,Y,Y,Y,Y,Y,Y] ?_
        refine done_ (done_of HT_.out (by kernel_rfl)) ?_
        try go_wp2
        go_meet
        case rel => exact ⟨_, ((((rd_T59 l1 x10_1).f0) == t364 && (((rd_T59 l1 x10_1).f1) == t365))), fs_, H', ⟨by have := HK1.out; first | omega | exact Nat.le_refl _⟩, ⟨Ro_ HO_9.out⟩, ⟨Ko_ BK362.out⟩, ⟨Bo_ HB.out GE362.out⟩⟩
      case rest =>
        clear HC8
        try clear p2
        try clear p3
        try clear q3
        try clear hx3
        try clear c5b0
        try clear c6b0
        try clear c7b0
        try clear c11b0
        try clear hcz10_0 hcz10_1
        try clear hfz10_0 hfz10_1
        try clear hx361_0
        try clear hx361_1
        try clear p2
        try clear p361
        try clear q361
        obtain ⟨kq, x12_7, rfl, HA, HJ7, HO_9, BK362, HB⟩ := hcut
        cases kq with
        | zero => exact absurd HA.out (by simp [impl_outerOf.j1])
        | succ kj7 =>
          have H := HA.out
          clear HA
          simp only [impl_outerOf.j1] at H
          have H' := Ad_.mk H
          clear H
          obtain ⟨Ao22, co22, eo22⟩ := Kd.R_slice HO_9.out
          subst eo22
          go_wp2
          go_loopg [12, 50] kj7 (fun kq v12 v50 w' => ∃ (x12_3 : Bool) (x50_3 : Int), v12 = .bool x12_3 ∧ v50 = .int .i64 x50_3 ∧ Ad_ (impl_outerOf.l1 kq l0 l1 a2 t359 t360 x9_1 x10_1 x12_3 x9_1 (x9_1.length : Int) x50_3 ((rd_T59 l1 x10_1).f0) ((rd_T59 l1 x10_1).f1) = some r) ∧ Ad_ (kq ≤ kj7) ∧ Ad_ (Kd.R k59 59 w' w.heap.size (fun k_ => k_ ≠ gb362) (.slice Ao22 x9_1.length co22) x9_1) ∧ Ad_ (Kd.R k59 59 w' w.heap.size (fun k_ => k_ ≠ gb362) (.slice Ao22 x9_1.length co22) x9_1) ∧ Ad_ (w'.heap[gb362]? = some (.cells #[.int .i64 ((rd_T59 l1 x10_1).f0), .int .i64 ((rd_T59 l1 x10_1).f1)] 59 (0, 0))) ∧ Ad_ (Below w.heap.size w w'))
          case atStart => exact ⟨(x12_7), (0), fs_, fs_, H', ⟨Nat.le_refl _⟩, ⟨Ro_ HO_9.out⟩, ⟨Ro_ HO_9.out⟩, ⟨Ko_ BK362.out⟩, ⟨Bo_ HB.out GE362.out⟩⟩
          case round =>
            clear H'
            try clear p2
            try clear p3
            try clear q3
            try clear hx3
            try clear c5b0
            try clear c6b0
            try clear c7b0
            try clear c11b0
            try clear hcz10_0 hcz10_1
            try clear hfz10_0 hfz10_1
            try clear hx361_0
            try clear hx361_1
            try clear p2
            try clear p3
            try clear p361
            try clear q3
            try clear q361
            obtain ⟨x12_3, x50_3, rfl, rfl, HA, HK3, HO_9, HO_48, BK362, HB⟩ := hrel
            cases gk with
            | zero => exact absurd HA.out (by simp [impl_outerOf.l1])
            | succ k3 =>
              have H := HA.out
              clear HA
              simp only [impl_outerOf.l1] at H
              by_cases c23 : x50_3 < (x9_1.length : Int)
              rotate_left
              ·
               rw [if_neg c23] at H
               have c23b0 := decide_eq_false c23
               clear c23
               by_cases c34 : x12_3 = true
               ·
                subst c34
                have H1 := H
                rw [if_pos rfl] at H1
                clear H
                have H := H1
                clear H1
                have H' := Ad_.mk H
                clear H
                go_wp2
                go_roundg k3
                case measure => have := HK1.out; have := HJ7.out; have := HK3.out; omega
                case rel => exact ⟨(x9_1), (wrap64 (x10_1 + 1)), fs_, H', ⟨by have := HK1.out; have := HJ7.out; have := HK3.out; omega⟩, ⟨by (with_reducible repeat (first | apply Kd.R_alloc | apply Kd.R_drewN | apply Kd.R_drew)); exact Kd.R_mono HO_9.out (fun _ hk => trivial)⟩, ⟨Bo_ HB.out GE362.out⟩⟩
               replace c34 := Bool.eq_false_iff.mpr c34
               subst c34
               have H1 : (if x9_1.length < 8796093022208 then (impl_outerOf.l0 k3 l0 l1 a2 t359 t360 (x9_1 ++ [(⟨((rd_T59 l1 x10_1).f0), ((rd_T59 l1 x10_1).f1)⟩ : S59)]) (wrap64 (x10_1 + 1))) else (none)) = some r := by rw [if_neg (show ¬ (false = true) by decide)] at H; exact H
               clear H
               have H := H1
               clear H1
               by_cases c35 : x9_1.length < 8796093022208
               rotate_left
               ·
                rw [if_neg c35] at H
                exact absurd H (by simp)
               rw [if_pos c35] at H
               have LMc35 := Ad_.mk c35
               clear c35
               obtain ⟨y368, hy368⟩ : ∃ y_ : List (S59), y_ = (x9_1 ++ [(⟨((rd_T59 l1 x10_1).f0), ((rd_T59 l1 x10_1).f1)⟩ : S59)]) := ⟨_, rfl⟩
               replace H : (impl_outerOf.l0 k3 l0 l1 a2 t359 t360 y368 (wrap64 (x10_1 + 1))) = some r := by first | (rw [hy368]; with_reducible exact H) | (have H2_ := (Option.bind_some _ _).symm.trans H; rw [hy368]; with_reducible exact H2_) | (have H2_ := (Option.bind_some _ _).symm.trans H; with_reducible exact H2_) | with_reducible exact H | (rw [hy368]; exact H) | exact H
               have Ny368 := Ad_.mk hy368
               clear hy368
               have H' := Ad_.mk H
               clear H
               obtain ⟨hcz36_0, hcz36_1⟩ := cells2_ BK362.out
               obtain ⟨hfz36_0, hfz36_1⟩ := froz2_ BK362.out
               go_wp2_with (first | ((with_reducible refine gB_ (b := .append) (xs := #[.tmp 63, .tmp 65]) rfl ?_); at_builtin; refine Kd.R_append k59 (w0 := w) w.heap.size rfl (.tmp 63) (.tmp 65) 41 59 (.agg #[(.int .i64 0), (.int .i64 0)]) 16 rfl Tryd.underlying41 info59 rfl (by decide) (by omega) (.slice Ao22 x9_1.length co22) x9_1 (⟨((rd_T59 l1 x10_1).f0), ((rd_T59 l1 x10_1).f1)⟩ : S59) [.int .i64 ((rd_T59 l1 x10_1).f0), .int .i64 ((rd_T59 l1 x10_1).f1)] (fun k_ => k_ ≠ gb362) (fun _ => False) rfl rfl ?aP (fun _ hk => hk.elim) ?aF ?aO ?aB ?aS ?aL ?_; (case aP => exact k59_mkM _ _ _ (⟨((rd_T59 l1 x10_1).f0), ((rd_T59 l1 x10_1).f1)⟩ : S59)); (case aB => exact (Bo_ HB.out GE362.out)); (case aF => exact (fun k_ hk => Kd.freshB (g := gb362) (o := .cells #[.int .i64 ((rd_T59 l1 x10_1).f0), .int .i64 ((rd_T59 l1 x10_1).f1)] 59 (0, 0)) (Ko_ BK362.out) k_ hk)); (case aO => exact (Ro_ HO_9.out)); (case aS => exact (bZ_ (Bo_ HB.out GE362.out))); (case aL => have := LMc35.out; omega); intro v369 w37 ho hb hg hat; rw [← Ny368.out] at ho; have n0_ := Ad_.mk (blk_grown (g := gb362) (o := .cells #[.int .i64 ((rd_T59 l1 x10_1).f0), .int .i64 ((rd_T59 l1 x10_1).f1)] 59 (0, 0)) (Ko_ BK362.out) hg (Kd.R_away HO_9.out (fun _ hk => hk))); have n1_ := Ad_.mk (hb); have n2_ := Ad_.mk (ho); clear BK362; clear HB; clear HO_9; have BK362 := n0_; have HB := n1_; have HO370 := n2_; clear n0_ n1_ n2_; clear ho hb hg hat))
               go_roundg k3
               case measure => have := HK1.out; have := HJ7.out; have := HK3.out; omega
               case rel => exact ⟨(y368), (wrap64 (x10_1 + 1)), fs_, H', ⟨by have := HK1.out; have := HJ7.out; have := HK3.out; omega⟩, ⟨by (with_reducible repeat (first | apply Kd.R_alloc | apply Kd.R_drewN | apply Kd.R_drew)); exact Kd.R_mono HO370.out (fun _ hk => trivial)⟩, ⟨Bo_ HB.out GE362.out⟩⟩
              rw [if_pos c23] at H
              have c23b0 := decide_eq_true c23
              clear c23
              by_cases c24 : 0 ≤ x50_3
              rotate_left
              ·
               rw [if_neg c24] at H
               exact absurd H (by simp)
              rw [if_pos c24] at H
              have c24b0 := decide_eq_true c24
              clear c24
              by_cases c25 : x50_3 < (x9_1.length : Int)
              rotate_left
              ·
               rw [if_neg c25] at H
               exact absurd H (by simp)
              rw [if_pos c25] at H
              have c25b0 := decide_eq_true c25
              clear c25
              by_cases c26 : x12_3 = true
              ·
               subst c26
               have H1 := H
               rw [if_pos rfl] at H1
               clear H
               have H := H1
               clear H1
               have H' := Ad_.mk H
               clear H
               have p366 : 0 ≤ (x50_3 : Int) := od_
               have q366 : x50_3 < (x9_1.length : Int) := od_
               obtain ⟨ad366, e366, hx366_0, hx366_1⟩ := at_T59 (Kd.R_reads' HO_48.out).2.2 x50_3 p366 q366
               cases e366
               replace p366 := eq_true p366
               replace q366 := eq_true q366
               go_wp2_with (first | ((with_reducible refine gD_ (N := 14) rfl ?_); refine bE_ ?hg (N := 14) ?hd (cs := #[.int .i64 0, .int .i64 0]) (t := 59) ?hr ?_; (case hd => rfl); (case hg => rfl); (case hr => first | (go_simp; done) | (go_simp; rfl)); intro gb367 hg w27 hbox hb; have n0_ := Ad_.mk (Kd.R_below (Kd.R_elderB (Ro_ HO_9.out) gb367 (Nat.le_of_eq hg.symm)) hb); have n1_ := Ad_.mk (Kd.R_below (Kd.R_elderB (Ro_ HO_48.out) gb367 (Nat.le_of_eq hg.symm)) hb); have n2_ := Ad_.mk (blk_below (g := gb362) (o := .cells #[.int .i64 ((rd_T59 l1 x10_1).f0), .int .i64 ((rd_T59 l1 x10_1).f1)] 59 (0, 0)) (Ko_ BK362.out) hb); have n3_ := Ad_.mk (bP_ (Bo_ HB.out GE362.out) hb); have n4_ := Ad_.mk (hbox); have n5_ := Ad_.mk ((by rw [hg]; exact (bZ_ (Bo_ HB.out GE362.out)) : w.heap.size ≤ gb367)); have n6_ := Ad_.mk ((by rw [hg]; exact (bZ_ (Bo_ HB.out GE362.out)) : w.heap.size ≤ gb367)); have n7_ := Ad_.mk ((by rw [hg]; exact Nat.ne_of_lt (blk_lt (g := gb362) (o := .cells #[.int .i64 ((rd_T59 l1 x10_1).f0), .int .i64 ((rd_T59 l1 x10_1).f1)] 59 (0, 0)) (Ko_ BK362.out)) : gb362 ≠ gb367)); have n8_ := Ad_.mk ((by rw [hg]; exact Nat.ne_of_gt (blk_lt (g := gb362) (o := .cells #[.int .i64 ((rd_T59 l1 x10_1).f0), .int .i64 ((rd_T59 l1 x10_1).f1)] 59 (0, 0)) (Ko_ BK362.out)) : gb367 ≠ gb362)); clear HO_9; clear HO_48; clear BK362; clear HB; have HO_9 := n0_; have HO_48 := n1_; have BK362 := n2_; have HB := n3_; have BK367 := n4_; have GW367 := n5_; have GE367 := n6_; have NB362_367 := n7_; have NB367_362 := n8_; clear n0_ n1_ n2_ n3_ n4_ n5_ n6_ n7_ n8_; clear hb hbox hg; have hnb28 := NB367_362.out; have hnc28 := NB362_367.out; obtain ⟨hcz29_0, hcz29_1⟩ := cells2_ BK367.out; obtain ⟨hfz29_0, hfz29_1⟩ := froz2_ BK367.out))
               go_roundg k3
               case measure => have := HK1.out; have := HJ7.out; have := HK3.out; omega
               case rel => exact ⟨(true), (wrap64 (x50_3 + 1)), fs_, fs_, H', ⟨by have := HK1.out; have := HJ7.out; have := HK3.out; omega⟩, ⟨by (with_reducible repeat (first | apply Kd.R_alloc | apply Kd.R_drewN | apply Kd.R_drew)); exact Kd.R_mono (Kd.R_far (p := ⟨gb367, 1, none⟩) (Kd.R_far (p := ⟨gb367, 0, none⟩) (Kd.R_mono HO_9.out (fun k_ hk => (⟨hk, hk.2⟩ : _ ∧ k_ ≠ gb367))) (fun _ hk => hk.2) (.int .i64 ((rd_T59 x9_1 x50_3).f0))) (fun _ hk => hk.2) (.int .i64 ((rd_T59 x9_1 x50_3).f1))) (fun _ hk => hk.1.1)⟩, ⟨by (with_reducible repeat (first | apply Kd.R_alloc | apply Kd.R_drewN | apply Kd.R_drew)); exact Kd.R_mono (Kd.R_far (p := ⟨gb367, 1, none⟩) (Kd.R_far (p := ⟨gb367, 0, none⟩) (Kd.R_mono HO_48.out (fun k_ hk => (⟨hk, hk.2⟩ : _ ∧ k_ ≠ gb367))) (fun _ hk => hk.2) (.int .i64 ((rd_T59 x9_1 x50_3).f0))) (fun _ hk => hk.2) (.int .i64 ((rd_T59 x9_1 x50_3).f1))) (fun _ hk => hk.1.1)⟩, ⟨by (with_reducible repeat (first | refine kN_ ?_ _ | refine k1_ ?_ | refine kA_ ?_ _)); refine blk_far ?_ NB362_367.out _; (with_reducible repeat (first | refine kN_ ?_ _ | refine k1_ ?_ | refine kA_ ?_ _)); refine blk_far ?_ NB362_367.out _; (with_reducible repeat (first | refine kN_ ?_ _ | refine k1_ ?_ | refine kA_ ?_ _)); exact BK362.out⟩, ⟨Bp_ HB.out GE362.out GE367.out⟩⟩
              replace c26 := Bool.eq_false_iff.mpr c26
              subst c26
              have H1 : (impl_outerOf.l1 k3 l0 l1 a2 t359 t360 x9_1 x10_1 (((rd_T59 x9_1 x50_3).f0) == ((rd_T59 l1 x10_1).f0) && (((rd_T59 x9_1 x50_3).f1) == ((rd_T59 l1 x10_1).f1))) x9_1 (x9_1.length : Int) (wrap64 (x50_3 + 1)) ((rd_T59 l1 x10_1).f0) ((rd_T59 l1 x10_1).f1)) = some r := by rw [if_neg (show ¬ (false = true) by decide)] at H; exact H
              clear H
              have H := H1
              clear H1
              have H' := Ad_.mk H
              clear H
              have p366 : 0 ≤ (x50_3 : Int) := od_
              have q366 : x50_3 < (x9_1.length : Int) := od_
              obtain ⟨ad366, e366, hx366_0, hx366_1⟩ := at_T59 (Kd.R_reads' HO_48.out).2.2 x50_3 p366 q366
              cases e366
              replace p366 := eq_true p366
              replace q366 := eq_true q366
              go_wp2_with (first | ((with_reducible refine gD_ (N := 14) rfl ?_); refine bE_ ?hg (N := 14) ?hd (cs := #[.int .i64 0, .int .i64 0]) (t := 59) ?hr ?_; (case hd => rfl); (case hg => rfl); (case hr => first | (go_simp; done) | (go_simp; rfl)); intro gb367 hg w30 hbox hb; have n0_ := Ad_.mk (Kd.R_below (Kd.R_elderB (Ro_ HO_9.out) gb367 (Nat.le_of_eq hg.symm)) hb); have n1_ := Ad_.mk (Kd.R_below (Kd.R_elderB (Ro_ HO_48.out) gb367 (Nat.le_of_eq hg.symm)) hb); have n2_ := Ad_.mk (blk_below (g := gb362) (o := .cells #[.int .i64 ((rd_T59 l1 x10_1).f0), .int .i64 ((rd_T59 l1 x10_1).f1)] 59 (0, 0)) (Ko_ BK362.out) hb); have n3_ := Ad_.mk (bP_ (Bo_ HB.out GE362.out) hb); have n4_ := Ad_.mk (hbox); have n5_ := Ad_.mk ((by rw [hg]; exact (bZ_ (Bo_ HB.out GE362.out)) : w.heap.size ≤ gb367)); have n6_ := Ad_.mk ((by rw [hg]; exact (bZ_ (Bo_ HB.out GE362.out)) : w.heap.size ≤ gb367)); have n7_ := Ad_.mk ((by rw [hg]; exact Nat.ne_of_lt (blk_lt (g := gb362) (o := .cells #[.int .i64 ((rd_T59 l1 x10_1).f0), .int .i64 ((rd_T59 l1 x10_1).f1)] 59 (0, 0)) (Ko_ BK362.out)) : gb362 ≠ gb367)); have n8_ := Ad_.mk ((by rw [hg]; exact Nat.ne_of_gt (blk_lt (g := gb362) (o := .cells #[.int .i64 ((rd_T59 l1 x10_1).f0), .int .i64 ((rd_T59 l1 x10_1).f1)] 59 (0, 0)) (Ko_ BK362.out)) : gb367 ≠ gb362)); clear HO_9; clear HO_48; clear BK362; clear HB; have HO_9 := n0_; have HO_48 := n1_; have BK362 := n2_; have HB := n3_; have BK367 := n4_; have GW367 := n5_; have GE367 := n6_; have NB362_367 := n7_; have NB367_362 := n8_; clear n0_ n1_ n2_ n3_ n4_ n5_ n6_ n7_ n8_; clear hb hbox hg; have hnb31 := NB367_362.out; have hnc31 := NB362_367.out; obtain ⟨hcz32_0, hcz32_1⟩ := cells2_ BK367.out; obtain ⟨hfz32_0, hfz32_1⟩ := froz2_ BK367.out; obtain ⟨hcz33_0, hcz33_1⟩ := cells2_ BK362.out; obtain ⟨hfz33_0, hfz33_1⟩ := froz2_ BK362.out))
              go_roundg k3
              case measure => have := HK1.out; have := HJ7.out; have := HK3.out; omega
              case rel => exact ⟨((((rd_T59 x9_1 x50_3).f0) == ((rd_T59 l1 x10_1).f0) && (((rd_T59 x9_1 x50_3).f1) == ((rd_T59 l1 x10_1).f1)))), (wrap64 (x50_3 + 1)), fs_, fs_, H', ⟨by have := HK1.out; have := HJ7.out; have := HK3.out; omega⟩, ⟨by (with_reducible repeat (first | apply Kd.R_alloc | apply Kd.R_drewN | apply Kd.R_drew)); exact Kd.R_mono (Kd.R_far (p := ⟨gb367, 1, none⟩) (Kd.R_far (p := ⟨gb367, 0, none⟩) (Kd.R_mono HO_9.out (fun k_ hk => (⟨hk, hk.2⟩ : _ ∧ k_ ≠ gb367))) (fun _ hk => hk.2) (.int .i64 ((rd_T59 x9_1 x50_3).f0))) (fun _ hk => hk.2) (.int .i64 ((rd_T59 x9_1 x50_3).f1))) (fun _ hk => hk.1.1)⟩, ⟨by (with_reducible repeat (first | apply Kd.R_alloc | apply Kd.R_drewN | apply Kd.R_drew)); exact Kd.R_mono (Kd.R_far (p := ⟨gb367, 1, none⟩) (Kd.R_far (p := ⟨gb367, 0, none⟩) (Kd.R_mono HO_48.out (fun k_ hk => (⟨hk, hk.2⟩ : _ ∧ k_ ≠ gb367))) (fun _ hk => hk.2) (.int .i64 ((rd_T59 x9_1 x50_3).f0))) (fun _ hk => hk.2) (.int .i64 ((rd_T59 x9_1 x50_3).f1))) (fun _ hk => hk.1.1)⟩, ⟨by (with_reducible repeat (first | refine kN_ ?_ _ | refine k1_ ?_ | refine kA_ ?_ _)); refine blk_far ?_ NB362_367.out _; (with_reducible repeat (first | refine kN_ ?_ _ | refine k1_ ?_ | refine kA_ ?_ _)); refine blk_far ?_ NB362_367.out _; (with_reducible repeat (first | refine kN_ ?_ _ | refine k1_ ?_ | refine kA_ ?_ _)); exact BK362.out⟩, ⟨Bp_ HB.out GE362.out GE367.out⟩⟩
def impl_OuterOf.j0 : Nat → List (S55) → Int → Bool → Option ((List (S59)))
  | 0, _, _, _ => none
  | k + 1, x0, x1, x21 => if x21 = true then (some ([] : List (S59))) else ((impl_binders.f k x0).bind fun t432 => ((impl_outerOf.f k x0 t432 x1).bind fun t435 => (some t435)))
def impl_OuterOf.f (k : Nat) (l0 : List (S55)) (a1 : Int) : Option ((List (S59))) := (impl_NodesOk.f k l0).bind fun t429 => (if t429 = true then ((impl_in.f a1 0 (wrap64 ((l0.length : Int) - 1))).bind fun t430 => (if t430 = true then ((impl_isFun.f l0 a1).bind fun t431 => (impl_OuterOf.j0 k l0 a1 (!t431))) else (impl_OuterOf.j0 k l0 a1 true))) else (impl_OuterOf.j0 k l0 a1 true))
set_option maxHeartbeats 8000000 in
set_option maxRecDepth 100000 in
theorem impl_OuterOf.calls (k : Nat) (A0 : Option Addr) (c0 : Nat) (l0 : List (S55)) (a1 : Int) (r : List (S59)) (w : World) (hr0 : Kd.C k55 w A0 l0.length l0) (hc0 : l0.length ≤ c0) (h : impl_OuterOf.f k l0 a1 = some r) :
    Calls Tryd.prog 40 #[.slice A0 l0.length c0, .int .i64 a1] w fun e w' => ∃ v0_ : Value, e = .returned (v0_) ∧ Kd.R k59 59 w' w.heap.size (fun _ => True) v0_ r ∧ Below w.heap.size w w' := by
  have HR0 := Ad_.mk hr0
  have HC0 := Ad_.mk hc0
  clear hr0 hc0
  have HB := Ad_.mk (Below.refl w.heap.size w)
  have H := h
  unfold impl_OuterOf.f at H
  clear h
  have HC3 := Ad_.mk H
  clear H
  go_enter Tryd.func40, Tryd.ntmps40
  go_upto_region 1 with (fail)
  go_cut [21] (fun v21 wc => ∃ (kq : Nat) (x21_2 : Bool), v21 = .bool x21_2 ∧ Ad_ (impl_OuterOf.j0 kq l0 a1 x21_2 = some r) ∧ Ad_ (kq ≤ k) ∧ Ad_ (Below w.heap.size w wc))
  case first =>
    have H := HC3.out
    clear HC3
    replace H := Option.bind_eq_some_iff.mp H
    obtain ⟨t429, A40, H⟩ := H
    try dsimp only at H
    have A4 := Ad_.mk A40
    clear A40
    by_cases c5 : t429 = true
    rotate_left
    ·
     replace c5 := Bool.eq_false_iff.mpr c5
     subst c5
     have H1 : (impl_OuterOf.j0 k l0 a1 true) = some r := by rw [if_neg (show ¬ (false = true) by decide)] at H; exact H
     clear H
     have H := H1
     clear H1
     have H' := Ad_.mk H
     clear H
     go_wp2_with (first | ((with_reducible refine gC_ (f := 48) rfl ?_); refine gM_ (some 6) rfl rfl Tryd.func48 (by kernel_rfl) rfl #[.slice A0 l0.length c0] rfl ?_; (with_reducible refine (impl_NodesOk.calls k _ _ l0 false _ ?side1 ?side2 A4.out).mono ?_); (case side1 => exact Cb_ HR0.out HB.out); (case side2 => exact HC0.out); rintro e w11 ⟨rfl, hb⟩; refine ⟨_, rfl, ?_⟩; replace HB := Ad_.mk (bQ_ HB.out hb); (try clear hb)))
     go_meet
     case rel => exact ⟨_, (true), fs_, H', ⟨by first | omega | exact Nat.le_refl _⟩, ⟨Bn_ HB.out⟩⟩
    subst c5
    have H1 := H
    rw [if_pos rfl] at H1
    clear H
    have H := H1
    clear H1
    replace H := Option.bind_eq_some_iff.mp H
    obtain ⟨t430, A60, H⟩ := H
    try dsimp only at H
    have A6 := Ad_.mk A60
    clear A60
    by_cases c7 : t430 = true
    rotate_left
    ·
     replace c7 := Bool.eq_false_iff.mpr c7
     subst c7
     have H1 : (impl_OuterOf.j0 k l0 a1 true) = some r := by rw [if_neg (show ¬ (false = true) by decide)] at H; exact H
     clear H
     have H := H1
     clear H1
     have H' := Ad_.mk H
     clear H
     go_wp2_with (first | ((with_reducible refine gC_ (f := 48) rfl ?_); refine gM_ (some 6) rfl rfl Tryd.func48 (by kernel_rfl) rfl #[.slice A0 l0.length c0] rfl ?_; (with_reducible refine (impl_NodesOk.calls k _ _ l0 true _ ?side1 ?side2 A4.out).mono ?_); (case side1 => exact Cb_ HR0.out HB.out); (case side2 => exact HC0.out); rintro e w10 ⟨rfl, hb⟩; refine ⟨_, rfl, ?_⟩; replace HB := Ad_.mk (bQ_ HB.out hb); (try clear hb)) | (go_at_call 71; (with_reducible refine (impl_in.calls a1 0 (wrap64 ((l0.length : Int) - 1)) false _ A6.out).mono ?_); rintro e w' ⟨rfl, ⟨nd, rfl⟩⟩))
     go_meet
     case rel => exact ⟨_, (true), fs_, H', ⟨by first | omega | exact Nat.le_refl _⟩, ⟨Bn_ HB.out⟩⟩
    subst c7
    have H1 := H
    rw [if_pos rfl] at H1
    clear H
    have H := H1
    clear H1
    replace H := Option.bind_eq_some_iff.mp H
    obtain ⟨t431, A80, H⟩ := H
    replace H : (impl_OuterOf.j0 k l0 a1 (!t431)) = some r := H
    have A8 := Ad_.mk A80
    clear A80
    have H' := Ad_.mk H
    clear H
    go_wp2_with (first | ((with_reducible refine gC_ (f := 48) rfl ?_); refine gM_ (some 6) rfl rfl Tryd.func48 (by kernel_rfl) rfl #[.slice A0 l0.length c0] rfl ?_; (with_reducible refine (impl_NodesOk.calls k _ _ l0 true _ ?side1 ?side2 A4.out).mono ?_); (case side1 => exact Cb_ HR0.out HB.out); (case side2 => exact HC0.out); rintro e w9 ⟨rfl, hb⟩; refine ⟨_, rfl, ?_⟩; replace HB := Ad_.mk (bQ_ HB.out hb); (try clear hb)) | (go_at_call 71; (with_reducible refine (impl_in.calls a1 0 (wrap64 ((l0.length : Int) - 1)) true _ A6.out).mono ?_); rintro e w' ⟨rfl, ⟨nd, rfl⟩⟩) | (go_at_call 85; (with_reducible refine (impl_isFun.calls _ _ l0 a1 t431 _ ?side1 ?side2 A8.out).mono ?_); (case side1 => repeat (first | exact (Kd.C_below HR0.out (Bn_ HB.out)) | (with_reducible refine Kd.C_alloc ?_ _) | (with_reducible refine Kd.C_drewN ?_ _) | (with_reducible refine Kd.C_drew ?_))); (case side2 => exact HC0.out); rintro e w' ⟨rfl, ⟨nd, rfl⟩⟩))
    go_meet
    case rel => exact ⟨_, (!t431), fs_, H', ⟨by first | omega | exact Nat.le_refl _⟩, ⟨Bn_ HB.out⟩⟩
  case rest =>
    clear HC3
    try clear p2
    try clear p6
    obtain ⟨kq, x21_2, rfl, HA, HJ2, HB⟩ := hcut
    cases kq with
    | zero => exact absurd HA.out (by simp [impl_OuterOf.j0])
    | succ kj2 =>
      have H := HA.out
      clear HA
      simp only [impl_OuterOf.j0] at H
      by_cases c12 : x21_2 = true
      ·
       subst c12
       have H1 : (some ([] : List (S59))) = some r := by rw [if_pos rfl] at H; exact H
       clear H
       have H := H1
       clear H1
       obtain rfl := Option.some.inj H
       go_wp2
       go_ret
       exact ⟨_, er_, by first | exact Kd.R_nil _ _ _ _ _ | exact Kd.N_nil _ _ _ _ _ | exact Kd.V_nil _ _ _ _ _ | exact Kd.Q_nil _ _ _ _ _ | exact Kd.S_nil _ _ _ _ _, Bn_ HB.out⟩
      replace c12 := Bool.eq_false_iff.mpr c12
      subst c12
      have H1 : ((impl_binders.f kj2 l0).bind fun t432 => ((impl_outerOf.f kj2 l0 t432 a1).bind fun t435 => (some t435))) = some r := by rw [if_neg (show ¬ (false = true) by decide)] at H; exact H
      clear H
      have H := H1
      clear H1
      replace H := Option.bind_eq_some_iff.mp H
      obtain ⟨t432, A130, H⟩ := H
      try dsimp only at H
      have A13 := Ad_.mk A130
      clear A130
      replace H := Option.bind_eq_some_iff.mp H
      obtain ⟨t435, A140, H⟩ := H
      replace H : (some t435) = some r := H
      have A14 := Ad_.mk A140
      clear A140
      obtain rfl := Option.some.inj H
      go_wp2_with (first | ((with_reducible refine gC_ (f := 87) rfl ?_); refine gM_ (some 24) rfl rfl Tryd.func87 (by kernel_rfl) rfl #[.slice A0 l0.length c0] rfl ?_; (with_reducible refine (impl_binders.calls kj2 _ _ l0 t432 _ ?side1 ?side2 A13.out).mono ?_); (case side1 => exact Cb_ HR0.out HB.out); (case side2 => exact HC0.out); rintro e w15 ⟨v433, rfl, ho0, hb⟩; refine ⟨_, rfl, ?_⟩; have n0_ := Ad_.mk (Kd.R_lower ho0 (bZ_ (Bn_ HB.out))); have n1_ := Ad_.mk (bQ_ HB.out hb); clear HB; have HO434 := n0_; have HB := n1_; clear n0_ n1_; (try clear hb); (try clear ho0); obtain ⟨Ao16, co16, eo16⟩ := Kd.R_slice HO434.out; subst eo16) | ((with_reducible refine gC_ (f := 86) rfl ?_); refine gM_ (some 26) rfl rfl Tryd.func86 (by kernel_rfl) rfl #[.slice A0 l0.length c0, .slice Ao16 t432.length co16, .int .i64 a1] rfl ?_; (with_reducible refine (impl_outerOf.calls kj2 _ _ l0 _ _ t432 a1 t435 _ ?side1 ?side2 ?side3 ?side4 A14.out).mono ?_); (case side1 => exact Cb_ HR0.out HB.out); (case side2 => exact HC0.out); (case side3 => repeat (first | exact (Kd.R_reads' HO434.out).2.2 | (with_reducible refine Kd.C_alloc ?_ _) | (with_reducible refine Kd.C_drewN ?_ _) | (with_reducible refine Kd.C_drew ?_))); (case side4 => exact (Kd.R_reads' HO434.out).2.1); rintro e w17 ⟨v436, rfl, ho0, hb⟩; refine ⟨_, rfl, ?_⟩; have n0_ := Ad_.mk (Kd.R_elder' (Ro_ HO434.out) (Kd.R_base ho0) hb); have n1_ := Ad_.mk (Kd.R_lower (Kd.R_new' ho0 (Kd.R_lt (Ro_ HO434.out))) (bZ_ (Bn_ HB.out))); have n2_ := Ad_.mk (bQ_ HB.out hb); clear HO434; clear HB; have HO434 := n0_; have HO437 := n1_; have HB := n2_; clear n0_ n1_ n2_; (try clear hb); (try clear ho0)))
      go_ret
      exact ⟨_, er_, by (with_reducible repeat (first | apply Kd.R_alloc | apply Kd.R_drewN | apply Kd.R_drew)); exact Kd.R_mono HO437.out (fun _ hk => trivial), Bn_ HB.out⟩
end Go.Proofs.YtfmlamheflbgdaaDoor.PAll
end
section
namespace Go.Proofs.YtfmlamheflbgdaaDoor.PAll
open Go.RowKit Go.Proofs.YtfmlamheflbgdaaDoorW.PrintWords Go.Proofs.YtfmlamheflbgdaaDoorW.PrintLast Go.Proofs.YtfmlamheflbgdaaDoorW.PrintMore
attribute [local go_sem] max2_int min2_int max_two min_two max_three min_three max_four min_four
set_option linter.unusedVariables false
set_option linter.unusedSimpArgs false
def laws_FnExactOuterOf.j0 : Nat → List (S62) → Int → List (S59) → List (S59) → Bool → Option (Bool)
  | 0, _, _, _, _, _ => none
  | k + 1, x0, x1, x6, x8, x46 => if x46 = true then (some false) else ((laws_markBindS.f k x8 1).bind fun bt468 => ((laws_heldBindS.f k bt468.2 1).bind fun t470 => (if t470 < 0 then (some false) else (if t470 = bt468.1 then ((laws_toNodeS.f k x0).bind fun t471 => ((impl_OuterOf.f k t471 x1).bind fun t474 => ((laws_eqBindS.f k t474 x6).bind fun t477 => (if t477 = true then ((laws_heldBindS.f k bt468.2 1).bind fun t478 => (if t478 < 0 then (some false) else (if t478 = bt468.1 then (some true) else (some false)))) else (some false))))) else (some false)))))
def laws_FnExactOuterOf.f (k : Nat) (l0 : List (S62)) (a1 : Int) : Option (Bool) := (laws_szNodeS.f k l0 1048576).bind fun t447 => (if t447 < 0 then (some true) else ((laws_toNodeS.f k l0).bind fun t448 => ((spec_OuterOf.f k t448 a1).bind fun t451 => ((laws_toNodeS.f k l0).bind fun t454 => ((impl_OuterOf.f k t454 a1).bind fun t457 => ((laws_eqBindS.f k t457 t451).bind fun t460 => (if t460 = true then ((laws_toNodeS.f k l0).bind fun t461 => ((laws_eqNodeS.f k t454 t461).bind fun t464 => (if t464 = true then ((laws_markNodeS.f k t454 1).bind fun bt465 => (if bt465.1 < 0 then (laws_FnExactOuterOf.j0 k l0 a1 t451 t457 true) else ((laws_eqBindS.f k t457 t451).bind fun t467 => (laws_FnExactOuterOf.j0 k l0 a1 t451 t457 (!t467))))) else (some false)))) else (some false))))))))
set_option maxHeartbeats 8000000 in
set_option maxRecDepth 100000 in
theorem laws_FnExactOuterOf.calls (k : Nat) (A0 : Option Addr) (c0 : Nat) (l0 : List (S62)) (a1 : Int) (r : Bool) (w : World) (hr0 : Kd.C k62 w A0 l0.length l0) (hc0 : l0.length ≤ c0) (h : laws_FnExactOuterOf.f k l0 a1 = some r) :
    Calls Tryd.prog 10 #[.slice A0 l0.length c0, .int .i64 a1] w fun e w' => e = .returned (.bool r) ∧ Below w.heap.size w w' := by
  have HR0 := Ad_.mk hr0
  have HC0 := Ad_.mk hc0
  clear hr0 hc0
  have HB := Ad_.mk (Below.refl w.heap.size w)
  have H := h
  unfold laws_FnExactOuterOf.f at H
  clear h
  replace H := Option.bind_eq_some_iff.mp H
  obtain ⟨t447, A30, H⟩ := H
  try dsimp only at H
  have A3 := Ad_.mk A30
  clear A30
  by_cases c4 : t447 < 0
  ·
   rw [if_pos c4] at H
   have c4b0 := decide_eq_true c4
   clear c4
   obtain rfl := Option.some.inj H
   go_enter Tryd.func10, Tryd.ntmps10
   go_wp2_with (first | ((with_reducible refine gC_ (f := 14) rfl ?_); refine gM_ (some 15) rfl rfl Tryd.func14 (by kernel_rfl) rfl #[.slice A0 l0.length c0, .int .i64 1048576] rfl ?_; (with_reducible refine (laws_szNodeS.calls k _ _ l0 1048576 t447 _ ?side1 ?side2 A3.out).mono ?_); (case side1 => repeat (first | exact HR0.out | (with_reducible refine Kd.C_alloc ?_ _) | (with_reducible refine Kd.C_drewN ?_ _) | (with_reducible refine Kd.C_drew ?_))); (case side2 => exact HC0.out); rintro e w5 ⟨rfl, hb⟩; refine ⟨_, rfl, ?_⟩; replace HB := Ad_.mk (bQ_ HB.out hb); (try clear hb)))
   go_ret
   exact ⟨er_, Bn_ HB.out⟩
  rw [if_neg c4] at H
  have c4b0 := decide_eq_false c4
  clear c4
  replace H := Option.bind_eq_some_iff.mp H
  obtain ⟨t448, A60, H⟩ := H
  try dsimp only at H
  have A6 := Ad_.mk A60
  clear A60
  replace H := Option.bind_eq_some_iff.mp H
  obtain ⟨t451, A70, H⟩ := H
  try dsimp only at H
  have A7 := Ad_.mk A70
  clear A70
  replace H := Option.bind_eq_some_iff.mp H
  obtain ⟨t454, A80, H⟩ := H
  try dsimp only at H
  have A8 := Ad_.mk A80
  clear A80
  replace H := Option.bind_eq_some_iff.mp H
  obtain ⟨t457, A90, H⟩ := H
  try dsimp only at H
  have A9 := Ad_.mk A90
  clear A90
  replace H := Option.bind_eq_some_iff.mp H
  obtain ⟨t460, A100, H⟩ := H
  try dsimp only at H
  have A10 := Ad_.mk A100
  clear A100
  by_cases c11 : t460 = true
  rotate_left
  ·
   replace c11 := Bool.eq_false_iff.mpr c11
   subst c11
   have H1 : (some false) = some r := by rw [if_neg (show ¬ (false = true) by decide)] at H; exact H
   clear H
   have H := H1
   clear H1
   obtain rfl := Option.some.inj H
   go_enter Tryd.func10, Tryd.ntmps10
   go_wp2_with (first | ((with_reducible refine gC_ (f := 14) rfl ?_); refine gM_ (some 15) rfl rfl Tryd.func14 (by kernel_rfl) rfl #[.slice A0 l0.length c0, .int .i64 1048576] rfl ?_; (with_reducible refine (laws_szNodeS.calls k _ _ l0 1048576 t447 _ ?side1 ?side2 A3.out).mono ?_); (case side1 => repeat (first | exact HR0.out | (with_reducible refine Kd.C_alloc ?_ _) | (with_reducible refine Kd.C_drewN ?_ _) | (with_reducible refine Kd.C_drew ?_))); (case side2 => exact HC0.out); rintro e w85 ⟨rfl, hb⟩; refine ⟨_, rfl, ?_⟩; replace HB := Ad_.mk (bQ_ HB.out hb); (try clear hb)) | ((with_reducible refine gC_ (f := 16) rfl ?_); refine gM_ (some 19) rfl rfl Tryd.func16 (by kernel_rfl) rfl #[.slice A0 l0.length c0] rfl ?_; (with_reducible refine (laws_toNodeS.calls k _ _ l0 t448 _ ?side1 ?side2 A6.out).mono ?_); (case side1 => exact Cb_ HR0.out HB.out); (case side2 => exact HC0.out); rintro e w86 ⟨v449, rfl, ho0, hb⟩; refine ⟨_, rfl, ?_⟩; have n0_ := Ad_.mk (Kd.R_lower ho0 (bZ_ (Bn_ HB.out))); have n1_ := Ad_.mk (bQ_ HB.out hb); clear HB; have HO450 := n0_; have HB := n1_; clear n0_ n1_; (try clear hb); (try clear ho0); obtain ⟨Ao87, co87, eo87⟩ := Kd.R_slice HO450.out; subst eo87) | ((with_reducible refine gC_ (f := 39) rfl ?_); refine gM_ (some 21) rfl rfl Tryd.func39 (by kernel_rfl) rfl #[.slice Ao87 t448.length co87, .int .i64 a1] rfl ?_; (with_reducible refine (spec_OuterOf.calls k _ _ t448 a1 t451 _ ?side1 ?side2 A7.out).mono ?_); (case side1 => repeat (first | exact (Kd.R_reads' HO450.out).2.2 | (with_reducible refine Kd.C_alloc ?_ _) | (with_reducible refine Kd.C_drewN ?_ _) | (with_reducible refine Kd.C_drew ?_))); (case side2 => exact (Kd.R_reads' HO450.out).2.1); rintro e w88 ⟨v452, rfl, ho0, hb⟩; refine ⟨_, rfl, ?_⟩; have n0_ := Ad_.mk (Rb_ HO450.out hb); have n1_ := Ad_.mk (Kd.R_lower ho0 (bZ_ (Bn_ HB.out))); have n2_ := Ad_.mk (bQ_ HB.out hb); clear HO450; clear HB; have HO450 := n0_; have HO453 := n1_; have HB := n2_; clear n0_ n1_ n2_; (try clear hb); (try clear ho0)) | ((with_reducible refine gC_ (f := 16) rfl ?_); refine gM_ (some 23) rfl rfl Tryd.func16 (by kernel_rfl) rfl #[.slice A0 l0.length c0] rfl ?_; (with_reducible refine (laws_toNodeS.calls k _ _ l0 t454 _ ?side1 ?side2 A8.out).mono ?_); (case side1 => exact Cb_ HR0.out HB.out); (case side2 => exact HC0.out); rintro e w89 ⟨v455, rfl, ho0, hb⟩; refine ⟨_, rfl, ?_⟩; have n0_ := Ad_.mk (Kd.R_elder' (Ro_ HO450.out) (Kd.R_base ho0) hb); have n1_ := Ad_.mk (Rb_ HO453.out hb); have n2_ := Ad_.mk (Kd.R_lower (Kd.R_new' ho0 (Kd.R_lt (Ro_ HO450.out))) (bZ_ (Bn_ HB.out))); have n3_ := Ad_.mk (bQ_ HB.out hb); clear HO450; clear HO453; clear HB; have HO450 := n0_; have HO453 := n1_; have HO456 := n2_; have HB := n3_; clear n0_ n1_ n2_ n3_; (try clear hb); (try clear ho0); obtain ⟨Ao90, co90, eo90⟩ := Kd.R_slice HO456.out; subst eo90) | ((with_reducible refine gC_ (f := 40) rfl ?_); refine gM_ (some 26) rfl rfl Tryd.func40 (by kernel_rfl) rfl #[.slice Ao90 t454.length co90, .int .i64 a1] rfl ?_; (with_reducible refine (impl_OuterOf.calls k _ _ t454 a1 t457 _ ?side1 ?side2 A9.out).mono ?_); (case side1 => repeat (first | exact (Kd.R_reads' HO456.out).2.2 | (with_reducible refine Kd.C_alloc ?_ _) | (with_reducible refine Kd.C_drewN ?_ _) | (with_reducible refine Kd.C_drew ?_))); (case side2 => exact (Kd.R_reads' HO456.out).2.1); rintro e w91 ⟨v458, rfl, ho0, hb⟩; refine ⟨_, rfl, ?_⟩; have n0_ := Ad_.mk (Rb_ HO450.out hb); have n1_ := Ad_.mk (Kd.R_elder' (Ro_ HO453.out) (Kd.R_base ho0) hb); have n2_ := Ad_.mk (Rb_ HO456.out hb); have n3_ := Ad_.mk (Kd.R_lower (Kd.R_new' ho0 (Kd.R_lt (Ro_ HO453.out))) (bZ_ (Bn_ HB.out))); have n4_ := Ad_.mk (bQ_ HB.out hb); clear HO450; clear HO453; clear HO456; clear HB; have HO450 := n0_; have HO453 := n1_; have HO456 := n2_; have HO459 := n3_; have HB := n4_; clear n0_ n1_ n2_ n3_ n4_; (try clear hb); (try clear ho0); obtain ⟨Ao92, co92, eo92⟩ := Kd.R_slice HO459.out; subst eo92; obtain ⟨Ao93, co93, eo93⟩ := Kd.R_slice HO453.out; subst eo93) | ((with_reducible refine gC_ (f := 41) rfl ?_); refine gM_ (some 29) rfl rfl Tryd.func41 (by kernel_rfl) rfl #[.slice Ao92 t457.length co92, .slice Ao93 t451.length co93] rfl ?_; (with_reducible refine (laws_eqBindS.calls k _ _ t457 _ _ t451 false _ ?side1 ?side2 ?side3 ?side4 A10.out).mono ?_); (case side1 => repeat (first | exact (Kd.R_reads' HO459.out).2.2 | (with_reducible refine Kd.C_alloc ?_ _) | (with_reducible refine Kd.C_drewN ?_ _) | (with_reducible refine Kd.C_drew ?_))); (case side2 => exact (Kd.R_reads' HO459.out).2.1); (case side3 => repeat (first | exact (Kd.R_reads' HO453.out).2.2 | (with_reducible refine Kd.C_alloc ?_ _) | (with_reducible refine Kd.C_drewN ?_ _) | (with_reducible refine Kd.C_drew ?_))); (case side4 => exact (Kd.R_reads' HO453.out).2.1); rintro e w94 ⟨rfl, hb⟩; refine ⟨_, rfl, ?_⟩; replace HO450 := Ad_.mk (Rb_ HO450.out hb); replace HO453 := Ad_.mk (Rb_ HO453.out hb); replace HO456 := Ad_.mk (Rb_ HO456.out hb); replace HO459 := Ad_.mk (Rb_ HO459.out hb); replace HB := Ad_.mk (bQ_ HB.out hb); (try clear hb)))
   go_ret
   exact ⟨er_, Bn_ HB.out⟩
  subst c11
  have H1 := H
  rw [if_pos rfl] at H1
  clear H
  have H := H1
  clear H1
  replace H := Option.bind_eq_some_iff.mp H
  obtain ⟨t461, A120, H⟩ := H
  try dsimp only at H
  have A12 := Ad_.mk A120
  clear A120
  replace H := Option.bind_eq_some_iff.mp H
  obtain ⟨t464, A130, H⟩ := H
  try dsimp only at H
  have A13 := Ad_.mk A130
  clear A130
  by_cases c14 : t464 = true
  rotate_left
  ·
   replace c14 := Bool.eq_false_iff.mpr c14
   subst c14
   have H1 : (some false) = some r := by rw [if_neg (show ¬ (false = true) by decide)] at H; exact H
   clear H
   have H := H1
   clear H1
   obtain rfl := Option.some.inj H
   go_enter Tryd.func10, Tryd.ntmps10
   go_wp2_with (first | ((with_reducible refine gC_ (f := 14) rfl ?_); refine gM_ (some 15) rfl rfl Tryd.func14 (by kernel_rfl) rfl #[.slice A0 l0.length c0, .int .i64 1048576] rfl ?_; (with_reducible refine (laws_szNodeS.calls k _ _ l0 1048576 t447 _ ?side1 ?side2 A3.out).mono ?_); (case side1 => repeat (first | exact HR0.out | (with_reducible refine Kd.C_alloc ?_ _) | (with_reducible refine Kd.C_drewN ?_ _) | (with_reducible refine Kd.C_drew ?_))); (case side2 => exact HC0.out); rintro e w72 ⟨rfl, hb⟩; refine ⟨_, rfl, ?_⟩; replace HB := Ad_.mk (bQ_ HB.out hb); (try clear hb)) | ((with_reducible refine gC_ (f := 16) rfl ?_); refine gM_ (some 19) rfl rfl Tryd.func16 (by kernel_rfl) rfl #[.slice A0 l0.length c0] rfl ?_; (with_reducible refine (laws_toNodeS.calls k _ _ l0 t448 _ ?side1 ?side2 A6.out).mono ?_); (case side1 => exact Cb_ HR0.out HB.out); (case side2 => exact HC0.out); rintro e w73 ⟨v449, rfl, ho0, hb⟩; refine ⟨_, rfl, ?_⟩; have n0_ := Ad_.mk (Kd.R_lower ho0 (bZ_ (Bn_ HB.out))); have n1_ := Ad_.mk (bQ_ HB.out hb); clear HB; have HO450 := n0_; have HB := n1_; clear n0_ n1_; (try clear hb); (try clear ho0); obtain ⟨Ao74, co74, eo74⟩ := Kd.R_slice HO450.out; subst eo74) | ((with_reducible refine gC_ (f := 39) rfl ?_); refine gM_ (some 21) rfl rfl Tryd.func39 (by kernel_rfl) rfl #[.slice Ao74 t448.length co74, .int .i64 a1] rfl ?_; (with_reducible refine (spec_OuterOf.calls k _ _ t448 a1 t451 _ ?side1 ?side2 A7.out).mono ?_); (case side1 => repeat (first | exact (Kd.R_reads' HO450.out).2.2 | (with_reducible refine Kd.C_alloc ?_ _) | (with_reducible refine Kd.C_drewN ?_ _) | (with_reducible refine Kd.C_drew ?_))); (case side2 => exact (Kd.R_reads' HO450.out).2.1); rintro e w75 ⟨v452, rfl, ho0, hb⟩; refine ⟨_, rfl, ?_⟩; have n0_ := Ad_.mk (Rb_ HO450.out hb); have n1_ := Ad_.mk (Kd.R_lower ho0 (bZ_ (Bn_ HB.out))); have n2_ := Ad_.mk (bQ_ HB.out hb); clear HO450; clear HB; have HO450 := n0_; have HO453 := n1_; have HB := n2_; clear n0_ n1_ n2_; (try clear hb); (try clear ho0)) | ((with_reducible refine gC_ (f := 16) rfl ?_); refine gM_ (some 23) rfl rfl Tryd.func16 (by kernel_rfl) rfl #[.slice A0 l0.length c0] rfl ?_; (with_reducible refine (laws_toNodeS.calls k _ _ l0 t454 _ ?side1 ?side2 A8.out).mono ?_); (case side1 => exact Cb_ HR0.out HB.out); (case side2 => exact HC0.out); rintro e w76 ⟨v455, rfl, ho0, hb⟩; refine ⟨_, rfl, ?_⟩; have n0_ := Ad_.mk (Kd.R_elder' (Ro_ HO450.out) (Kd.R_base ho0) hb); have n1_ := Ad_.mk (Rb_ HO453.out hb); have n2_ := Ad_.mk (Kd.R_lower (Kd.R_new' ho0 (Kd.R_lt (Ro_ HO450.out))) (bZ_ (Bn_ HB.out))); have n3_ := Ad_.mk (bQ_ HB.out hb); clear HO450; clear HO453; clear HB; have HO450 := n0_; have HO453 := n1_; have HO456 := n2_; have HB := n3_; clear n0_ n1_ n2_ n3_; (try clear hb); (try clear ho0); obtain ⟨Ao77, co77, eo77⟩ := Kd.R_slice HO456.out; subst eo77) | ((with_reducible refine gC_ (f := 40) rfl ?_); refine gM_ (some 26) rfl rfl Tryd.func40 (by kernel_rfl) rfl #[.slice Ao77 t454.length co77, .int .i64 a1] rfl ?_; (with_reducible refine (impl_OuterOf.calls k _ _ t454 a1 t457 _ ?side1 ?side2 A9.out).mono ?_); (case side1 => repeat (first | exact (Kd.R_reads' HO456.out).2.2 | (with_reducible refine Kd.C_alloc ?_ _) | (with_reducible refine Kd.C_drewN ?_ _) | (with_reducible refine Kd.C_drew ?_))); (case side2 => exact (Kd.R_reads' HO456.out).2.1); rintro e w78 ⟨v458, rfl, ho0, hb⟩; refine ⟨_, rfl, ?_⟩; have n0_ := Ad_.mk (Rb_ HO450.out hb); have n1_ := Ad_.mk (Kd.R_elder' (Ro_ HO453.out) (Kd.R_base ho0) hb); have n2_ := Ad_.mk (Rb_ HO456.out hb); have n3_ := Ad_.mk (Kd.R_lower (Kd.R_new' ho0 (Kd.R_lt (Ro_ HO453.out))) (bZ_ (Bn_ HB.out))); have n4_ := Ad_.mk (bQ_ HB.out hb); clear HO450; clear HO453; clear HO456; clear HB; have HO450 := n0_; have HO453 := n1_; have HO456 := n2_; have HO459 := n3_; have HB := n4_; clear n0_ n1_ n2_ n3_ n4_; (try clear hb); (try clear ho0); obtain ⟨Ao79, co79, eo79⟩ := Kd.R_slice HO459.out; subst eo79; obtain ⟨Ao80, co80, eo80⟩ := Kd.R_slice HO453.out; subst eo80) | ((with_reducible refine gC_ (f := 41) rfl ?_); refine gM_ (some 29) rfl rfl Tryd.func41 (by kernel_rfl) rfl #[.slice Ao79 t457.length co79, .slice Ao80 t451.length co80] rfl ?_; (with_reducible refine (laws_eqBindS.calls k _ _ t457 _ _ t451 true _ ?side1 ?side2 ?side3 ?side4 A10.out).mono ?_); (case side1 => repeat (first | exact (Kd.R_reads' HO459.out).2.2 | (with_reducible refine Kd.C_alloc ?_ _) | (with_reducible refine Kd.C_drewN ?_ _) | (with_reducible refine Kd.C_drew ?_))); (case side2 => exact (Kd.R_reads' HO459.out).2.1); (case side3 => repeat (first | exact (Kd.R_reads' HO453.out).2.2 | (with_reducible refine Kd.C_alloc ?_ _) | (with_reducible refine Kd.C_drewN ?_ _) | (with_reducible refine Kd.C_drew ?_))); (case side4 => exact (Kd.R_reads' HO453.out).2.1); rintro e w81 ⟨rfl, hb⟩; refine ⟨_, rfl, ?_⟩; replace HO450 := Ad_.mk (Rb_ HO450.out hb); replace HO453 := Ad_.mk (Rb_ HO453.out hb); replace HO456 := Ad_.mk (Rb_ HO456.out hb); replace HO459 := Ad_.mk (Rb_ HO459.out hb); replace HB := Ad_.mk (bQ_ HB.out hb); (try clear hb)) | ((with_reducible refine gC_ (f := 16) rfl ?_); refine gM_ (some 33) rfl rfl Tryd.func16 (by kernel_rfl) rfl #[.slice A0 l0.length c0] rfl ?_; (with_reducible refine (laws_toNodeS.calls k _ _ l0 t461 _ ?side1 ?side2 A12.out).mono ?_); (case side1 => exact Cb_ HR0.out HB.out); (case side2 => exact HC0.out); rintro e w82 ⟨v462, rfl, ho0, hb⟩; refine ⟨_, rfl, ?_⟩; have n0_ := Ad_.mk (Kd.R_elder' (Ro_ HO450.out) (Kd.R_base ho0) hb); have n1_ := Ad_.mk (Rb_ HO453.out hb); have n2_ := Ad_.mk (Kd.R_elder' (Ro_ HO456.out) (Kd.R_base ho0) hb); have n3_ := Ad_.mk (Rb_ HO459.out hb); have n4_ := Ad_.mk (Kd.R_lower (Kd.R_new' (Kd.R_new' ho0 (Kd.R_lt (Ro_ HO450.out))) (Kd.R_lt (Ro_ HO456.out))) (bZ_ (Bn_ HB.out))); have n5_ := Ad_.mk (bQ_ HB.out hb); clear HO450; clear HO453; clear HO456; clear HO459; clear HB; have HO450 := n0_; have HO453 := n1_; have HO456 := n2_; have HO459 := n3_; have HO463 := n4_; have HB := n5_; clear n0_ n1_ n2_ n3_ n4_ n5_; (try clear hb); (try clear ho0); obtain ⟨Ao83, co83, eo83⟩ := Kd.R_slice HO463.out; subst eo83) | ((with_reducible refine gC_ (f := 18) rfl ?_); refine gM_ (some 34) rfl rfl Tryd.func18 (by kernel_rfl) rfl #[.slice Ao77 t454.length co77, .slice Ao83 t461.length co83] rfl ?_; (with_reducible refine (laws_eqNodeS.calls k _ _ t454 _ _ t461 false _ ?side1 ?side2 ?side3 ?side4 A13.out).mono ?_); (case side1 => repeat (first | exact (Kd.R_reads' HO456.out).2.2 | (with_reducible refine Kd.C_alloc ?_ _) | (with_reducible refine Kd.C_drewN ?_ _) | (with_reducible refine Kd.C_drew ?_))); (case side2 => exact (Kd.R_reads' HO456.out).2.1); (case side3 => repeat (first | exact (Kd.R_reads' HO463.out).2.2 | (with_reducible refine Kd.C_alloc ?_ _) | (with_reducible refine Kd.C_drewN ?_ _) | (with_reducible refine Kd.C_drew ?_))); (case side4 => exact (Kd.R_reads' HO463.out).2.1); rintro e w84 ⟨rfl, hb⟩; refine ⟨_, rfl, ?_⟩; replace HO450 := Ad_.mk (Rb_ HO450.out hb); replace HO453 := Ad_.mk (Rb_ HO453.out hb); replace HO456 := Ad_.mk (Rb_ HO456.out hb); replace HO459 := Ad_.mk (Rb_ HO459.out hb); replace HO463 := Ad_.mk (Rb_ HO463.out hb); replace HB := Ad_.mk (bQ_ HB.out hb); (try clear hb)))
   go_ret
   exact ⟨er_, Bn_ HB.out⟩
  subst c14
  have H1 := H
  rw [if_pos rfl] at H1
  clear H
  have H := H1
  clear H1
  replace H := Option.bind_eq_some_iff.mp H
  obtain ⟨⟨t465, t466⟩, A150, H⟩ := H
  try dsimp only at H
  have A15 := Ad_.mk A150
  clear A150
  have HC16 := Ad_.mk H
  clear H
  go_enter Tryd.func10, Tryd.ntmps10
  go_upto_region 14 with (first | ((with_reducible refine gC_ (f := 14) rfl ?_); refine gM_ (some 15) rfl rfl Tryd.func14 (by kernel_rfl) rfl #[.slice A0 l0.length c0, .int .i64 1048576] rfl ?_; (with_reducible refine (laws_szNodeS.calls k _ _ l0 1048576 t447 _ ?side1 ?side2 A3.out).mono ?_); (case side1 => repeat (first | exact HR0.out | (with_reducible refine Kd.C_alloc ?_ _) | (with_reducible refine Kd.C_drewN ?_ _) | (with_reducible refine Kd.C_drew ?_))); (case side2 => exact HC0.out); rintro e w17 ⟨rfl, hb⟩; refine ⟨_, rfl, ?_⟩; replace HB := Ad_.mk (bQ_ HB.out hb); (try clear hb)) | ((with_reducible refine gC_ (f := 16) rfl ?_); refine gM_ (some 19) rfl rfl Tryd.func16 (by kernel_rfl) rfl #[.slice A0 l0.length c0] rfl ?_; (with_reducible refine (laws_toNodeS.calls k _ _ l0 t448 _ ?side1 ?side2 A6.out).mono ?_); (case side1 => exact Cb_ HR0.out HB.out); (case side2 => exact HC0.out); rintro e w18 ⟨v449, rfl, ho0, hb⟩; refine ⟨_, rfl, ?_⟩; have n0_ := Ad_.mk (Kd.R_lower ho0 (bZ_ (Bn_ HB.out))); have n1_ := Ad_.mk (bQ_ HB.out hb); clear HB; have HO450 := n0_; have HB := n1_; clear n0_ n1_; (try clear hb); (try clear ho0); obtain ⟨Ao19, co19, eo19⟩ := Kd.R_slice HO450.out; subst eo19) | ((with_reducible refine gC_ (f := 39) rfl ?_); refine gM_ (some 21) rfl rfl Tryd.func39 (by kernel_rfl) rfl #[.slice Ao19 t448.length co19, .int .i64 a1] rfl ?_; (with_reducible refine (spec_OuterOf.calls k _ _ t448 a1 t451 _ ?side1 ?side2 A7.out).mono ?_); (case side1 => repeat (first | exact (Kd.R_reads' HO450.out).2.2 | (with_reducible refine Kd.C_alloc ?_ _) | (with_reducible refine Kd.C_drewN ?_ _) | (with_reducible refine Kd.C_drew ?_))); (case side2 => exact (Kd.R_reads' HO450.out).2.1); rintro e w20 ⟨v452, rfl, ho0, hb⟩; refine ⟨_, rfl, ?_⟩; have n0_ := Ad_.mk (Rb_ HO450.out hb); have n1_ := Ad_.mk (Kd.R_lower ho0 (bZ_ (Bn_ HB.out))); have n2_ := Ad_.mk (bQ_ HB.out hb); clear HO450; clear HB; have HO450 := n0_; have HO453 := n1_; have HB := n2_; clear n0_ n1_ n2_; (try clear hb); (try clear ho0)) | ((with_reducible refine gC_ (f := 16) rfl ?_); refine gM_ (some 23) rfl rfl Tryd.func16 (by kernel_rfl) rfl #[.slice A0 l0.length c0] rfl ?_; (with_reducible refine (laws_toNodeS.calls k _ _ l0 t454 _ ?side1 ?side2 A8.out).mono ?_); (case side1 => exact Cb_ HR0.out HB.out); (case side2 => exact HC0.out); rintro e w21 ⟨v455, rfl, ho0, hb⟩; refine ⟨_, rfl, ?_⟩; have n0_ := Ad_.mk (Kd.R_elder' (Ro_ HO450.out) (Kd.R_base ho0) hb); have n1_ := Ad_.mk (Rb_ HO453.out hb); have n2_ := Ad_.mk (Kd.R_lower (Kd.R_new' ho0 (Kd.R_lt (Ro_ HO450.out))) (bZ_ (Bn_ HB.out))); have n3_ := Ad_.mk (bQ_ HB.out hb); clear HO450; clear HO453; clear HB; have HO450 := n0_; have HO453 := n1_; have HO456 := n2_; have HB := n3_; clear n0_ n1_ n2_ n3_; (try clear hb); (try clear ho0); obtain ⟨Ao22, co22, eo22⟩ := Kd.R_slice HO456.out; subst eo22) | ((with_reducible refine gC_ (f := 40) rfl ?_); refine gM_ (some 26) rfl rfl Tryd.func40 (by kernel_rfl) rfl #[.slice Ao22 t454.length co22, .int .i64 a1] rfl ?_; (with_reducible refine (impl_OuterOf.calls k _ _ t454 a1 t457 _ ?side1 ?side2 A9.out).mono ?_); (case side1 => repeat (first | exact (Kd.R_reads' HO456.out).2.2 | (with_reducible refine Kd.C_alloc ?_ _) | (with_reducible refine Kd.C_drewN ?_ _) | (with_reducible refine Kd.C_drew ?_))); (case side2 => exact (Kd.R_reads' HO456.out).2.1); rintro e w23 ⟨v458, rfl, ho0, hb⟩; refine ⟨_, rfl, ?_⟩; have n0_ := Ad_.mk (Rb_ HO450.out hb); have n1_ := Ad_.mk (Kd.R_elder' (Ro_ HO453.out) (Kd.R_base ho0) hb); have n2_ := Ad_.mk (Rb_ HO456.out hb); have n3_ := Ad_.mk (Kd.R_lower (Kd.R_new' ho0 (Kd.R_lt (Ro_ HO453.out))) (bZ_ (Bn_ HB.out))); have n4_ := Ad_.mk (bQ_ HB.out hb); clear HO450; clear HO453; clear HO456; clear HB; have HO450 := n0_; have HO453 := n1_; have HO456 := n2_; have HO459 := n3_; have HB := n4_; clear n0_ n1_ n2_ n3_ n4_; (try clear hb); (try clear ho0); obtain ⟨Ao24, co24, eo24⟩ := Kd.R_slice HO459.out; subst eo24; obtain ⟨Ao25, co25, eo25⟩ := Kd.R_slice HO453.out; subst eo25) | ((with_reducible refine gC_ (f := 41) rfl ?_); refine gM_ (some 29) rfl rfl Tryd.func41 (by kernel_rfl) rfl #[.slice Ao24 t457.length co24, .slice Ao25 t451.length co25] rfl ?_; (with_reducible refine (laws_eqBindS.calls k _ _ t457 _ _ t451 true _ ?side1 ?side2 ?side3 ?side4 A10.out).mono ?_); (case side1 => repeat (first | exact (Kd.R_reads' HO459.out).2.2 | (with_reducible refine Kd.C_alloc ?_ _) | (with_reducible refine Kd.C_drewN ?_ _) | (with_reducible refine Kd.C_drew ?_))); (case side2 => exact (Kd.R_reads' HO459.out).2.1); (case side3 => repeat (first | exact (Kd.R_reads' HO453.out).2.2 | (with_reducible refine Kd.C_alloc ?_ _) | (with_reducible refine Kd.C_drewN ?_ _) | (with_reducible refine Kd.C_drew ?_))); (case side4 => exact (Kd.R_reads' HO453.out).2.1); rintro e w26 ⟨rfl, hb⟩; refine ⟨_, rfl, ?_⟩; replace HO450 := Ad_.mk (Rb_ HO450.out hb); replace HO453 := Ad_.mk (Rb_ HO453.out hb); replace HO456 := Ad_.mk (Rb_ HO456.out hb); replace HO459 := Ad_.mk (Rb_ HO459.out hb); replace HB := Ad_.mk (bQ_ HB.out hb); (try clear hb)) | ((with_reducible refine gC_ (f := 16) rfl ?_); refine gM_ (some 33) rfl rfl Tryd.func16 (by kernel_rfl) rfl #[.slice A0 l0.length c0] rfl ?_; (with_reducible refine (laws_toNodeS.calls k _ _ l0 t461 _ ?side1 ?side2 A12.out).mono ?_); (case side1 => exact Cb_ HR0.out HB.out); (case side2 => exact HC0.out); rintro e w27 ⟨v462, rfl, ho0, hb⟩; refine ⟨_, rfl, ?_⟩; have n0_ := Ad_.mk (Kd.R_elder' (Ro_ HO450.out) (Kd.R_base ho0) hb); have n1_ := Ad_.mk (Rb_ HO453.out hb); have n2_ := Ad_.mk (Kd.R_elder' (Ro_ HO456.out) (Kd.R_base ho0) hb); have n3_ := Ad_.mk (Rb_ HO459.out hb); have n4_ := Ad_.mk (Kd.R_lower (Kd.R_new' (Kd.R_new' ho0 (Kd.R_lt (Ro_ HO450.out))) (Kd.R_lt (Ro_ HO456.out))) (bZ_ (Bn_ HB.out))); have n5_ := Ad_.mk (bQ_ HB.out hb); clear HO450; clear HO453; clear HO456; clear HO459; clear HB; have HO450 := n0_; have HO453 := n1_; have HO456 := n2_; have HO459 := n3_; have HO463 := n4_; have HB := n5_; clear n0_ n1_ n2_ n3_ n4_ n5_; (try clear hb); (try clear ho0); obtain ⟨Ao28, co28, eo28⟩ := Kd.R_slice HO463.out; subst eo28) | ((with_reducible refine gC_ (f := 18) rfl ?_); refine gM_ (some 34) rfl rfl Tryd.func18 (by kernel_rfl) rfl #[.slice Ao22 t454.length co22, .slice Ao28 t461.length co28] rfl ?_; (with_reducible refine (laws_eqNodeS.calls k _ _ t454 _ _ t461 true _ ?side1 ?side2 ?side3 ?side4 A13.out).mono ?_); (case side1 => repeat (first | exact (Kd.R_reads' HO456.out).2.2 | (with_reducible refine Kd.C_alloc ?_ _) | (with_reducible refine Kd.C_drewN ?_ _) | (with_reducible refine Kd.C_drew ?_))); (case side2 => exact (Kd.R_reads' HO456.out).2.1); (case side3 => repeat (first | exact (Kd.R_reads' HO463.out).2.2 | (with_reducible refine Kd.C_alloc ?_ _) | (with_reducible refine Kd.C_drewN ?_ _) | (with_reducible refine Kd.C_drew ?_))); (case side4 => exact (Kd.R_reads' HO463.out).2.1); rintro e w29 ⟨rfl, hb⟩; refine ⟨_, rfl, ?_⟩; replace HO450 := Ad_.mk (Rb_ HO450.out hb); replace HO453 := Ad_.mk (Rb_ HO453.out hb); replace HO456 := Ad_.mk (Rb_ HO456.out hb); replace HO459 := Ad_.mk (Rb_ HO459.out hb); replace HO463 := Ad_.mk (Rb_ HO463.out hb); replace HB := Ad_.mk (bQ_ HB.out hb); (try clear hb)) | ((with_reducible refine gC_ (f := 24) rfl ?_); refine gM_ (some 38) rfl rfl Tryd.func24 (by kernel_rfl) rfl #[.slice Ao22 t454.length co22, .int .i64 1] rfl ?_; (with_reducible refine (laws_markNodeS.calls k (fun k_ => some k_ = (.slice Ao22 t454.length co22 : Value).ownBlock) (.slice Ao22 t454.length co22) t454 1 t465 t466 w _ ?side1 ?side2 A15.out).mono ?_); (case side1 => repeat (with_reducible first | exact HB.out | apply bA_ | apply bN_ | apply b1_)); (case side2 => exact Kd.R_tight rfl HO456.out); rintro e w30 ⟨rfl, hy0, hb, hkp⟩; refine ⟨_, rfl, ?_⟩; have n0_ := Ad_.mk (Kd.R_mono (ok' := fun k_ => some k_ ≠ (.slice Ao22 t454.length co22 : Value).ownBlock ∧ some k_ ≠ (.slice Ao28 t461.length co28 : Value).ownBlock) (Kd.R_keptB (HO450.out) hkp (fun k_ hk_ hs_ => (hk_.1.2) hs_)) (fun k_ hk_ => ⟨hk_.1.1.2, hk_.1.2⟩)); have n1_ := Ad_.mk (Kd.R_mono (ok' := fun k_ => some k_ ≠ (.slice Ao24 t457.length co24 : Value).ownBlock) (Kd.R_keptB ((Kd.R_apart' HO453.out (Kd.R_typed HO456.out) (by decide))) hkp (fun k_ hk_ hs_ => (hk_.2) hs_)) (fun k_ hk_ => hk_.1.1.2)); have n2_ := Ad_.mk (Kd.R_reok rfl hy0 (fun k_ e_ => HO456.out.1 k_ e_)); have n3_ := Ad_.mk (Kd.R_mono (ok' := fun k_ => some k_ ≠ (.slice Ao25 t451.length co25 : Value).ownBlock) (Kd.R_keptB ((Kd.R_apart' HO459.out (Kd.R_typed HO456.out) (by decide))) hkp (fun k_ hk_ hs_ => (hk_.2) hs_)) (fun k_ hk_ => hk_.1.1.2)); have n4_ := Ad_.mk (Kd.R_mono (ok' := fun k_ => some k_ ≠ (.slice Ao19 t448.length co19 : Value).ownBlock ∧ some k_ ≠ (.slice Ao22 t454.length co22 : Value).ownBlock) (Kd.R_keptB (HO463.out) hkp (fun k_ hk_ hs_ => (hk_.2) hs_)) (fun k_ hk_ => ⟨hk_.1.1.2, hk_.1.2⟩)); have n5_ := Ad_.mk (hb); clear HO450; clear HO453; clear HO456; clear HO459; clear HO463; clear HB; have HO450 := n0_; have HO453 := n1_; have HO456 := n2_; have HO459 := n3_; have HO463 := n4_; have HB := n5_; clear n0_ n1_ n2_ n3_ n4_ n5_; (try clear hb); (try clear hkp); (try clear hy0)))
  (try simp only [Act.put, List.setIfInBounds_toArray, List.set_cons_zero, List.set_cons_succ])
  go_cut [46] (fun v46 wc => ∃ (kq : Nat) (x46_15 : Bool), v46 = .bool x46_15 ∧ Ad_ (laws_FnExactOuterOf.j0 kq l0 a1 t451 t457 x46_15 = some r) ∧ Ad_ (kq ≤ k) ∧ Ad_ (Kd.R k59 59 wc w.heap.size (fun k_ => some k_ ≠ ((.slice Ao24 t457.length co24) : Value).ownBlock) (.slice Ao25 t451.length co25) t451) ∧ Ad_ (Kd.R k59 59 wc w.heap.size (fun k_ => some k_ ≠ ((.slice Ao25 t451.length co25) : Value).ownBlock) (.slice Ao24 t457.length co24) t457) ∧ Ad_ (Below w.heap.size w wc))
  case first =>
    have H := HC16.out
    clear HC16
    by_cases c31 : t465 < 0
    ·
     rw [if_pos c31] at H
     have c31b0 := decide_eq_true c31
     clear c31
     (first | rw [c31b0] | (simp only [i64_w, i32_w]; rw [c31b0]) | skip)
     have H' := Ad_.mk H
     clear H
     go_wp2
     go_meet
     case rel => exact ⟨_, (true), fs_, H', ⟨by first | omega | exact Nat.le_refl _⟩, ⟨Ro_ HO453.out⟩, ⟨Ro_ HO459.out⟩, ⟨Bn_ HB.out⟩⟩
    rw [if_neg c31] at H
    have c31b0 := decide_eq_false c31
    clear c31
    (first | rw [c31b0] | (simp only [i64_w, i32_w]; rw [c31b0]) | skip)
    replace H := Option.bind_eq_some_iff.mp H
    obtain ⟨t467, A320, H⟩ := H
    try dsimp only at H
    have A32 := Ad_.mk A320
    clear A320
    have H' := Ad_.mk H
    clear H
    go_wp2_with (first | (go_at_call 41; (with_reducible refine (laws_eqBindS.calls k _ _ t457 _ _ t451 t467 _ ?side1 ?side2 ?side3 ?side4 A32.out).mono ?_); (case side1 => repeat (first | exact (Kd.R_reads' HO459.out).2.2 | (with_reducible refine Kd.C_alloc ?_ _) | (with_reducible refine Kd.C_drewN ?_ _) | (with_reducible refine Kd.C_drew ?_))); (case side2 => exact (Kd.R_reads' HO459.out).2.1); (case side3 => repeat (first | exact (Kd.R_reads' HO453.out).2.2 | (with_reducible refine Kd.C_alloc ?_ _) | (with_reducible refine Kd.C_drewN ?_ _) | (with_reducible refine Kd.C_drew ?_))); (case side4 => exact (Kd.R_reads' HO453.out).2.1); rintro e w33 ⟨rfl, hb⟩; replace HO450 := Ad_.mk (Rb_ HO450.out hb); replace HO453 := Ad_.mk (Rb_ HO453.out hb); replace HO456 := Ad_.mk (Rb_ HO456.out hb); replace HO459 := Ad_.mk (Rb_ HO459.out hb); replace HO463 := Ad_.mk (Rb_ HO463.out hb); replace HB := Ad_.mk (bQ_ HB.out hb); (try clear hb)))
    go_meet
    case rel => exact ⟨_, (!t467), fs_, H', ⟨by first | omega | exact Nat.le_refl _⟩, ⟨Ro_ HO453.out⟩, ⟨Ro_ HO459.out⟩, ⟨Bn_ HB.out⟩⟩
  case rest =>
    clear HC16
    try clear p2
    try clear c4b0
    try clear c31b0
    obtain ⟨kq, x46_15, rfl, HA, HJ15, HO_6, HO_8, HB⟩ := hcut
    cases kq with
    | zero => exact absurd HA.out (by simp [laws_FnExactOuterOf.j0])
    | succ kj15 =>
      have H := HA.out
      clear HA
      simp only [laws_FnExactOuterOf.j0] at H
      by_cases c34 : x46_15 = true
      ·
       subst c34
       have H1 : (some false) = some r := by rw [if_pos rfl] at H; exact H
       clear H
       have H := H1
       clear H1
       obtain rfl := Option.some.inj H
       go_wp2
       go_ret
       exact ⟨er_, Bn_ HB.out⟩
      replace c34 := Bool.eq_false_iff.mpr c34
      subst c34
      have H1 : ((laws_markBindS.f kj15 t457 1).bind fun bt468 => ((laws_heldBindS.f kj15 bt468.2 1).bind fun t470 => (if t470 < 0 then (some false) else (if t470 = bt468.1 then ((laws_toNodeS.f kj15 l0).bind fun t471 => ((impl_OuterOf.f kj15 t471 a1).bind fun t474 => ((laws_eqBindS.f kj15 t474 t451).bind fun t477 => (if t477 = true then ((laws_heldBindS.f kj15 bt468.2 1).bind fun t478 => (if t478 < 0 then (some false) else (if t478 = bt468.1 then (some true) else (some false)))) else (some false))))) else (some false))))) = some r := by rw [if_neg (show ¬ (false = true) by decide)] at H; exact H
      clear H
      have H := H1
      clear H1
      replace H := Option.bind_eq_some_iff.mp H
      obtain ⟨⟨t468, t469⟩, A350, H⟩ := H
      try dsimp only at H
      have A35 := Ad_.mk A350
      clear A350
      replace H := Option.bind_eq_some_iff.mp H
      obtain ⟨t470, A360, H⟩ := H
      try dsimp only at H
      have A36 := Ad_.mk A360
      clear A360
      by_cases c37 : t470 < 0
      ·
       rw [if_pos c37] at H
       have c37b0 := decide_eq_true c37
       clear c37
       obtain rfl := Option.some.inj H
       go_wp2_with (first | ((with_reducible refine gC_ (f := 42) rfl ?_); refine gM_ (some 49) rfl rfl Tryd.func42 (by kernel_rfl) rfl #[.slice Ao24 t457.length co24, .int .i64 1] rfl ?_; (with_reducible refine (laws_markBindS.calls kj15 (fun k_ => some k_ = (.slice Ao24 t457.length co24 : Value).ownBlock) (.slice Ao24 t457.length co24) t457 1 t468 t469 w _ ?side1 ?side2 A35.out).mono ?_); (case side1 => repeat (with_reducible first | exact HB.out | apply bA_ | apply bN_ | apply b1_)); (case side2 => exact Kd.R_tight rfl HO_8.out); rintro e w38 ⟨rfl, hy0, hb, hkp⟩; refine ⟨_, rfl, ?_⟩; replace HO_6 := Ad_.mk (Kd.R_mono (ok' := fun k_ => some k_ ≠ (.slice Ao24 t457.length co24 : Value).ownBlock) (Kd.R_keptB (HO_6.out) hkp (fun k_ hk_ hs_ => (hk_) hs_)) (fun k_ hk_ => hk_.1)); replace HO_8 := Ad_.mk (Kd.R_reok rfl hy0 (fun k_ e_ => HO_8.out.1 k_ e_)); replace HB := Ad_.mk (hb); (try clear hb); (try clear hkp); (try clear hy0)) | ((with_reducible refine gC_ (f := 43) rfl ?_); refine goesL_ (some 52) rfl rfl Tryd.func43 (by kernel_rfl) rfl #[.slice Ao24 t469.length co24, .int .i64 1] rfl (by (try simp only [List.map_toArray, List.map_cons, List.map_nil]); first | done | (rw [show t469.length = t457.length from (Kd.R_reads' HO_8.out).1.symm] <;> rfl) | rfl | (simp only [List.length_drop, List.length_take]; rfl)) ?_; (with_reducible refine (laws_heldBindS.calls kj15 _ _ t469 1 t470 _ ?side1 ?side2 A36.out).mono ?_); (case side1 => repeat (first | exact (Kd.R_reads' HO_8.out).2.2 | (with_reducible refine Kd.C_alloc ?_ _) | (with_reducible refine Kd.C_drewN ?_ _) | (with_reducible refine Kd.C_drew ?_))); (case side2 => rw [show t469.length = t457.length from (Kd.R_reads' HO_8.out).1.symm]; exact (Kd.R_reads' HO_8.out).2.1); rintro e w' ⟨rfl, ⟨nd, rfl⟩⟩; refine ⟨_, rfl, ?_⟩))
       go_ret
       exact ⟨er_, Bn_ HB.out⟩
      rw [if_neg c37] at H
      have c37b0 := decide_eq_false c37
      clear c37
      by_cases c39 : t470 = t468
      rotate_left
      ·
       rw [if_neg c39] at H
       have c39b0 : (t470 == t468) = false := beq_eq_false_iff_ne.mpr c39
       have c39b1 : (t470 != t468) = true := bne_iff_ne.mpr c39
       obtain rfl := Option.some.inj H
       go_wp2_with (first | ((with_reducible refine gC_ (f := 42) rfl ?_); refine gM_ (some 49) rfl rfl Tryd.func42 (by kernel_rfl) rfl #[.slice Ao24 t457.length co24, .int .i64 1] rfl ?_; (with_reducible refine (laws_markBindS.calls kj15 (fun k_ => some k_ = (.slice Ao24 t457.length co24 : Value).ownBlock) (.slice Ao24 t457.length co24) t457 1 t468 t469 w _ ?side1 ?side2 A35.out).mono ?_); (case side1 => repeat (with_reducible first | exact HB.out | apply bA_ | apply bN_ | apply b1_)); (case side2 => exact Kd.R_tight rfl HO_8.out); rintro e w71 ⟨rfl, hy0, hb, hkp⟩; refine ⟨_, rfl, ?_⟩; replace HO_6 := Ad_.mk (Kd.R_mono (ok' := fun k_ => some k_ ≠ (.slice Ao24 t457.length co24 : Value).ownBlock) (Kd.R_keptB (HO_6.out) hkp (fun k_ hk_ hs_ => (hk_) hs_)) (fun k_ hk_ => hk_.1)); replace HO_8 := Ad_.mk (Kd.R_reok rfl hy0 (fun k_ e_ => HO_8.out.1 k_ e_)); replace HB := Ad_.mk (hb); (try clear hb); (try clear hkp); (try clear hy0)) | ((with_reducible refine gC_ (f := 43) rfl ?_); refine goesL_ (some 52) rfl rfl Tryd.func43 (by kernel_rfl) rfl #[.slice Ao24 t469.length co24, .int .i64 1] rfl (by (try simp only [List.map_toArray, List.map_cons, List.map_nil]); first | done | (rw [show t469.length = t457.length from (Kd.R_reads' HO_8.out).1.symm] <;> rfl) | rfl | (simp only [List.length_drop, List.length_take]; rfl)) ?_; (with_reducible refine (laws_heldBindS.calls kj15 _ _ t469 1 t470 _ ?side1 ?side2 A36.out).mono ?_); (case side1 => repeat (first | exact (Kd.R_reads' HO_8.out).2.2 | (with_reducible refine Kd.C_alloc ?_ _) | (with_reducible refine Kd.C_drewN ?_ _) | (with_reducible refine Kd.C_drew ?_))); (case side2 => rw [show t469.length = t457.length from (Kd.R_reads' HO_8.out).1.symm]; exact (Kd.R_reads' HO_8.out).2.1); rintro e w' ⟨rfl, ⟨nd, rfl⟩⟩; refine ⟨_, rfl, ?_⟩))
       go_ret
       exact ⟨er_, Bn_ HB.out⟩
      rw [if_pos c39] at H
      have c39b0 : (t470 == t468) = true := beq_iff_eq.mpr c39
      have c39b1 : (t470 != t468) = false := bne_eq_false_iff_eq.mpr c39
      clear c39
      replace H := Option.bind_eq_some_iff.mp H
      obtain ⟨t471, A400, H⟩ := H
      try dsimp only at H
      have A40 := Ad_.mk A400
      clear A400
      replace H := Option.bind_eq_some_iff.mp H
      obtain ⟨t474, A410, H⟩ := H
      try dsimp only at H
      have A41 := Ad_.mk A410
      clear A410
      replace H := Option.bind_eq_some_iff.mp H
      obtain ⟨t477, A420, H⟩ := H
      try dsimp only at H
      have A42 := Ad_.mk A420
      clear A420
      by_cases c43 : t477 = true
      rotate_left
      ·
       replace c43 := Bool.eq_false_iff.mpr c43
       subst c43
       have H1 : (some false) = some r := by rw [if_neg (show ¬ (false = true) by decide)] at H; exact H
       clear H
       have H := H1
       clear H1
       obtain rfl := Option.some.inj H
       go_wp2_with (first | ((with_reducible refine gC_ (f := 42) rfl ?_); refine gM_ (some 49) rfl rfl Tryd.func42 (by kernel_rfl) rfl #[.slice Ao24 t457.length co24, .int .i64 1] rfl ?_; (with_reducible refine (laws_markBindS.calls kj15 (fun k_ => some k_ = (.slice Ao24 t457.length co24 : Value).ownBlock) (.slice Ao24 t457.length co24) t457 1 t468 t469 w _ ?side1 ?side2 A35.out).mono ?_); (case side1 => repeat (with_reducible first | exact HB.out | apply bA_ | apply bN_ | apply b1_)); (case side2 => exact Kd.R_tight rfl HO_8.out); rintro e w65 ⟨rfl, hy0, hb, hkp⟩; refine ⟨_, rfl, ?_⟩; replace HO_6 := Ad_.mk (Kd.R_mono (ok' := fun k_ => some k_ ≠ (.slice Ao24 t457.length co24 : Value).ownBlock) (Kd.R_keptB (HO_6.out) hkp (fun k_ hk_ hs_ => (hk_) hs_)) (fun k_ hk_ => hk_.1)); replace HO_8 := Ad_.mk (Kd.R_reok rfl hy0 (fun k_ e_ => HO_8.out.1 k_ e_)); replace HB := Ad_.mk (hb); (try clear hb); (try clear hkp); (try clear hy0)) | ((with_reducible refine gC_ (f := 43) rfl ?_); refine goesL_ (some 52) rfl rfl Tryd.func43 (by kernel_rfl) rfl #[.slice Ao24 t469.length co24, .int .i64 1] rfl (by (try simp only [List.map_toArray, List.map_cons, List.map_nil]); first | done | (rw [show t469.length = t457.length from (Kd.R_reads' HO_8.out).1.symm] <;> rfl) | rfl | (simp only [List.length_drop, List.length_take]; rfl)) ?_; (with_reducible refine (laws_heldBindS.calls kj15 _ _ t469 1 t470 _ ?side1 ?side2 A36.out).mono ?_); (case side1 => repeat (first | exact (Kd.R_reads' HO_8.out).2.2 | (with_reducible refine Kd.C_alloc ?_ _) | (with_reducible refine Kd.C_drewN ?_ _) | (with_reducible refine Kd.C_drew ?_))); (case side2 => rw [show t469.length = t457.length from (Kd.R_reads' HO_8.out).1.symm]; exact (Kd.R_reads' HO_8.out).2.1); rintro e w' ⟨rfl, ⟨nd, rfl⟩⟩; refine ⟨_, rfl, ?_⟩) | ((with_reducible refine gC_ (f := 16) rfl ?_); refine gM_ (some 59) rfl rfl Tryd.func16 (by kernel_rfl) rfl #[.slice A0 l0.length c0] rfl ?_; (with_reducible refine (laws_toNodeS.calls kj15 _ _ l0 t471 _ ?side1 ?side2 A40.out).mono ?_); (case side1 => repeat (first | exact (Kd.C_below HR0.out (Bn_ HB.out)) | (with_reducible refine Kd.C_alloc ?_ _) | (with_reducible refine Kd.C_drewN ?_ _) | (with_reducible refine Kd.C_drew ?_))); (case side2 => exact HC0.out); rintro e w66 ⟨v472, rfl, ho0, hb⟩; refine ⟨_, rfl, ?_⟩; have n0_ := Ad_.mk (Rb_ HO_6.out hb); have n1_ := Ad_.mk (Rb_ HO_8.out hb); have n2_ := Ad_.mk (Kd.R_lower ho0 (bZ_ (Bn_ HB.out))); have n3_ := Ad_.mk (bQ_ HB.out hb); clear HO_6; clear HO_8; clear HB; have HO_6 := n0_; have HO_8 := n1_; have HO473 := n2_; have HB := n3_; clear n0_ n1_ n2_ n3_; (try clear hb); (try clear ho0); obtain ⟨Ao67, co67, eo67⟩ := Kd.R_slice HO473.out; subst eo67) | ((with_reducible refine gC_ (f := 40) rfl ?_); refine gM_ (some 61) rfl rfl Tryd.func40 (by kernel_rfl) rfl #[.slice Ao67 t471.length co67, .int .i64 a1] rfl ?_; (with_reducible refine (impl_OuterOf.calls kj15 _ _ t471 a1 t474 _ ?side1 ?side2 A41.out).mono ?_); (case side1 => repeat (first | exact (Kd.R_reads' HO473.out).2.2 | (with_reducible refine Kd.C_alloc ?_ _) | (with_reducible refine Kd.C_drewN ?_ _) | (with_reducible refine Kd.C_drew ?_))); (case side2 => exact (Kd.R_reads' HO473.out).2.1); rintro e w68 ⟨v475, rfl, ho0, hb⟩; refine ⟨_, rfl, ?_⟩; have n0_ := Ad_.mk (Kd.R_elder' (Ro_ HO_6.out) (Kd.R_base ho0) hb); have n1_ := Ad_.mk (Kd.R_elder' (Ro_ HO_8.out) (Kd.R_base ho0) hb); have n2_ := Ad_.mk (Rb_ HO473.out hb); have n3_ := Ad_.mk (Kd.R_lower (Kd.R_new' (Kd.R_new' ho0 (Kd.R_lt (Ro_ HO_6.out))) (Kd.R_lt (Ro_ HO_8.out))) (bZ_ (Bn_ HB.out))); have n4_ := Ad_.mk (bQ_ HB.out hb); clear HO_6; clear HO_8; clear HO473; clear HB; have HO_6 := n0_; have HO_8 := n1_; have HO473 := n2_; have HO476 := n3_; have HB := n4_; clear n0_ n1_ n2_ n3_ n4_; (try clear hb); (try clear ho0); obtain ⟨Ao69, co69, eo69⟩ := Kd.R_slice HO476.out; subst eo69) | ((with_reducible refine gC_ (f := 41) rfl ?_); refine gM_ (some 64) rfl rfl Tryd.func41 (by kernel_rfl) rfl #[.slice Ao69 t474.length co69, .slice Ao25 t451.length co25] rfl ?_; (with_reducible refine (laws_eqBindS.calls kj15 _ _ t474 _ _ t451 false _ ?side1 ?side2 ?side3 ?side4 A42.out).mono ?_); (case side1 => repeat (first | exact (Kd.R_reads' HO476.out).2.2 | (with_reducible refine Kd.C_alloc ?_ _) | (with_reducible refine Kd.C_drewN ?_ _) | (with_reducible refine Kd.C_drew ?_))); (case side2 => exact (Kd.R_reads' HO476.out).2.1); (case side3 => repeat (first | exact (Kd.R_reads' HO_6.out).2.2 | (with_reducible refine Kd.C_alloc ?_ _) | (with_reducible refine Kd.C_drewN ?_ _) | (with_reducible refine Kd.C_drew ?_))); (case side4 => exact (Kd.R_reads' HO_6.out).2.1); rintro e w70 ⟨rfl, hb⟩; refine ⟨_, rfl, ?_⟩; replace HO_6 := Ad_.mk (Rb_ HO_6.out hb); replace HO_8 := Ad_.mk (Rb_ HO_8.out hb); replace HO473 := Ad_.mk (Rb_ HO473.out hb); replace HO476 := Ad_.mk (Rb_ HO476.out hb); replace HB := Ad_.mk (bQ_ HB.out hb); (try clear hb)))
       go_ret
       exact ⟨er_, Bn_ HB.out⟩
      subst c43
      have H1 := H
      rw [if_pos rfl] at H1
      clear H
      have H := H1
      clear H1
      replace H := Option.bind_eq_some_iff.mp H
      obtain ⟨t478, A440, H⟩ := H
      try dsimp only at H
      have A44 := Ad_.mk A440
      clear A440
      by_cases c45 : t478 < 0
      ·
       rw [if_pos c45] at H
       have c45b0 := decide_eq_true c45
       clear c45
       obtain rfl := Option.some.inj H
       go_wp2_with (first | ((with_reducible refine gC_ (f := 42) rfl ?_); refine gM_ (some 49) rfl rfl Tryd.func42 (by kernel_rfl) rfl #[.slice Ao24 t457.length co24, .int .i64 1] rfl ?_; (with_reducible refine (laws_markBindS.calls kj15 (fun k_ => some k_ = (.slice Ao24 t457.length co24 : Value).ownBlock) (.slice Ao24 t457.length co24) t457 1 t468 t469 w _ ?side1 ?side2 A35.out).mono ?_); (case side1 => repeat (with_reducible first | exact HB.out | apply bA_ | apply bN_ | apply b1_)); (case side2 => exact Kd.R_tight rfl HO_8.out); rintro e w46 ⟨rfl, hy0, hb, hkp⟩; refine ⟨_, rfl, ?_⟩; replace HO_6 := Ad_.mk (Kd.R_mono (ok' := fun k_ => some k_ ≠ (.slice Ao24 t457.length co24 : Value).ownBlock) (Kd.R_keptB (HO_6.out) hkp (fun k_ hk_ hs_ => (hk_) hs_)) (fun k_ hk_ => hk_.1)); replace HO_8 := Ad_.mk (Kd.R_reok rfl hy0 (fun k_ e_ => HO_8.out.1 k_ e_)); replace HB := Ad_.mk (hb); (try clear hb); (try clear hkp); (try clear hy0)) | ((with_reducible refine gC_ (f := 43) rfl ?_); refine goesL_ (some 52) rfl rfl Tryd.func43 (by kernel_rfl) rfl #[.slice Ao24 t469.length co24, .int .i64 1] rfl (by (try simp only [List.map_toArray, List.map_cons, List.map_nil]); first | done | (rw [show t469.length = t457.length from (Kd.R_reads' HO_8.out).1.symm] <;> rfl) | rfl | (simp only [List.length_drop, List.length_take]; rfl)) ?_; (with_reducible refine (laws_heldBindS.calls kj15 _ _ t469 1 t470 _ ?side1 ?side2 A36.out).mono ?_); (case side1 => repeat (first | exact (Kd.R_reads' HO_8.out).2.2 | (with_reducible refine Kd.C_alloc ?_ _) | (with_reducible refine Kd.C_drewN ?_ _) | (with_reducible refine Kd.C_drew ?_))); (case side2 => rw [show t469.length = t457.length from (Kd.R_reads' HO_8.out).1.symm]; exact (Kd.R_reads' HO_8.out).2.1); rintro e w' ⟨rfl, ⟨nd, rfl⟩⟩; refine ⟨_, rfl, ?_⟩) | ((with_reducible refine gC_ (f := 16) rfl ?_); refine gM_ (some 59) rfl rfl Tryd.func16 (by kernel_rfl) rfl #[.slice A0 l0.length c0] rfl ?_; (with_reducible refine (laws_toNodeS.calls kj15 _ _ l0 t471 _ ?side1 ?side2 A40.out).mono ?_); (case side1 => repeat (first | exact (Kd.C_below HR0.out (Bn_ HB.out)) | (with_reducible refine Kd.C_alloc ?_ _) | (with_reducible refine Kd.C_drewN ?_ _) | (with_reducible refine Kd.C_drew ?_))); (case side2 => exact HC0.out); rintro e w47 ⟨v472, rfl, ho0, hb⟩; refine ⟨_, rfl, ?_⟩; have n0_ := Ad_.mk (Rb_ HO_6.out hb); have n1_ := Ad_.mk (Rb_ HO_8.out hb); have n2_ := Ad_.mk (Kd.R_lower ho0 (bZ_ (Bn_ HB.out))); have n3_ := Ad_.mk (bQ_ HB.out hb); clear HO_6; clear HO_8; clear HB; have HO_6 := n0_; have HO_8 := n1_; have HO473 := n2_; have HB := n3_; clear n0_ n1_ n2_ n3_; (try clear hb); (try clear ho0); obtain ⟨Ao48, co48, eo48⟩ := Kd.R_slice HO473.out; subst eo48) | ((with_reducible refine gC_ (f := 40) rfl ?_); refine gM_ (some 61) rfl rfl Tryd.func40 (by kernel_rfl) rfl #[.slice Ao48 t471.length co48, .int .i64 a1] rfl ?_; (with_reducible refine (impl_OuterOf.calls kj15 _ _ t471 a1 t474 _ ?side1 ?side2 A41.out).mono ?_); (case side1 => repeat (first | exact (Kd.R_reads' HO473.out).2.2 | (with_reducible refine Kd.C_alloc ?_ _) | (with_reducible refine Kd.C_drewN ?_ _) | (with_reducible refine Kd.C_drew ?_))); (case side2 => exact (Kd.R_reads' HO473.out).2.1); rintro e w49 ⟨v475, rfl, ho0, hb⟩; refine ⟨_, rfl, ?_⟩; have n0_ := Ad_.mk (Kd.R_elder' (Ro_ HO_6.out) (Kd.R_base ho0) hb); have n1_ := Ad_.mk (Kd.R_elder' (Ro_ HO_8.out) (Kd.R_base ho0) hb); have n2_ := Ad_.mk (Rb_ HO473.out hb); have n3_ := Ad_.mk (Kd.R_lower (Kd.R_new' (Kd.R_new' ho0 (Kd.R_lt (Ro_ HO_6.out))) (Kd.R_lt (Ro_ HO_8.out))) (bZ_ (Bn_ HB.out))); have n4_ := Ad_.mk (bQ_ HB.out hb); clear HO_6; clear HO_8; clear HO473; clear HB; have HO_6 := n0_; have HO_8 := n1_; have HO473 := n2_; have HO476 := n3_; have HB := n4_; clear n0_ n1_ n2_ n3_ n4_; (try clear hb); (try clear ho0); obtain ⟨Ao50, co50, eo50⟩ := Kd.R_slice HO476.out; subst eo50) | ((with_reducible refine gC_ (f := 41) rfl ?_); refine gM_ (some 64) rfl rfl Tryd.func41 (by kernel_rfl) rfl #[.slice Ao50 t474.length co50, .slice Ao25 t451.length co25] rfl ?_; (with_reducible refine (laws_eqBindS.calls kj15 _ _ t474 _ _ t451 true _ ?side1 ?side2 ?side3 ?side4 A42.out).mono ?_); (case side1 => repeat (first | exact (Kd.R_reads' HO476.out).2.2 | (with_reducible refine Kd.C_alloc ?_ _) | (with_reducible refine Kd.C_drewN ?_ _) | (with_reducible refine Kd.C_drew ?_))); (case side2 => exact (Kd.R_reads' HO476.out).2.1); (case side3 => repeat (first | exact (Kd.R_reads' HO_6.out).2.2 | (with_reducible refine Kd.C_alloc ?_ _) | (with_reducible refine Kd.C_drewN ?_ _) | (with_reducible refine Kd.C_drew ?_))); (case side4 => exact (Kd.R_reads' HO_6.out).2.1); rintro e w51 ⟨rfl, hb⟩; refine ⟨_, rfl, ?_⟩; replace HO_6 := Ad_.mk (Rb_ HO_6.out hb); replace HO_8 := Ad_.mk (Rb_ HO_8.out hb); replace HO473 := Ad_.mk (Rb_ HO473.out hb); replace HO476 := Ad_.mk (Rb_ HO476.out hb); replace HB := Ad_.mk (bQ_ HB.out hb); (try clear hb)) | ((with_reducible refine gC_ (f := 43) rfl ?_); refine goesL_ (some 68) rfl rfl Tryd.func43 (by kernel_rfl) rfl #[.slice Ao24 t469.length co24, .int .i64 1] rfl (by (try simp only [List.map_toArray, List.map_cons, List.map_nil]); first | done | (rw [show t469.length = t457.length from (Kd.R_reads' HO_8.out).1.symm] <;> rfl) | rfl | (simp only [List.length_drop, List.length_take]; rfl)) ?_; (with_reducible refine (laws_heldBindS.calls kj15 _ _ t469 1 t478 _ ?side1 ?side2 A44.out).mono ?_); (case side1 => repeat (first | exact (Kd.R_reads' HO_8.out).2.2 | (with_reducible refine Kd.C_alloc ?_ _) | (with_reducible refine Kd.C_drewN ?_ _) | (with_reducible refine Kd.C_drew ?_))); (case side2 => rw [show t469.length = t457.length from (Kd.R_reads' HO_8.out).1.symm]; exact (Kd.R_reads' HO_8.out).2.1); rintro e w' ⟨rfl, ⟨nd, rfl⟩⟩; refine ⟨_, rfl, ?_⟩))
       go_ret
       exact ⟨er_, Bn_ HB.out⟩
      rw [if_neg c45] at H
      have c45b0 := decide_eq_false c45
      clear c45
      by_cases c52 : t478 = t468
      rotate_left
      ·
       rw [if_neg c52] at H
       have c52b0 : (t478 == t468) = false := beq_eq_false_iff_ne.mpr c52
       have c52b1 : (t478 != t468) = true := bne_iff_ne.mpr c52
       obtain rfl := Option.some.inj H
       go_wp2_with (first | ((with_reducible refine gC_ (f := 42) rfl ?_); refine gM_ (some 49) rfl rfl Tryd.func42 (by kernel_rfl) rfl #[.slice Ao24 t457.length co24, .int .i64 1] rfl ?_; (with_reducible refine (laws_markBindS.calls kj15 (fun k_ => some k_ = (.slice Ao24 t457.length co24 : Value).ownBlock) (.slice Ao24 t457.length co24) t457 1 t468 t469 w _ ?side1 ?side2 A35.out).mono ?_); (case side1 => repeat (with_reducible first | exact HB.out | apply bA_ | apply bN_ | apply b1_)); (case side2 => exact Kd.R_tight rfl HO_8.out); rintro e w59 ⟨rfl, hy0, hb, hkp⟩; refine ⟨_, rfl, ?_⟩; replace HO_6 := Ad_.mk (Kd.R_mono (ok' := fun k_ => some k_ ≠ (.slice Ao24 t457.length co24 : Value).ownBlock) (Kd.R_keptB (HO_6.out) hkp (fun k_ hk_ hs_ => (hk_) hs_)) (fun k_ hk_ => hk_.1)); replace HO_8 := Ad_.mk (Kd.R_reok rfl hy0 (fun k_ e_ => HO_8.out.1 k_ e_)); replace HB := Ad_.mk (hb); (try clear hb); (try clear hkp); (try clear hy0)) | ((with_reducible refine gC_ (f := 43) rfl ?_); refine goesL_ (some 52) rfl rfl Tryd.func43 (by kernel_rfl) rfl #[.slice Ao24 t469.length co24, .int .i64 1] rfl (by (try simp only [List.map_toArray, List.map_cons, List.map_nil]); first | done | (rw [show t469.length = t457.length from (Kd.R_reads' HO_8.out).1.symm] <;> rfl) | rfl | (simp only [List.length_drop, List.length_take]; rfl)) ?_; (with_reducible refine (laws_heldBindS.calls kj15 _ _ t469 1 t470 _ ?side1 ?side2 A36.out).mono ?_); (case side1 => repeat (first | exact (Kd.R_reads' HO_8.out).2.2 | (with_reducible refine Kd.C_alloc ?_ _) | (with_reducible refine Kd.C_drewN ?_ _) | (with_reducible refine Kd.C_drew ?_))); (case side2 => rw [show t469.length = t457.length from (Kd.R_reads' HO_8.out).1.symm]; exact (Kd.R_reads' HO_8.out).2.1); rintro e w' ⟨rfl, ⟨nd, rfl⟩⟩; refine ⟨_, rfl, ?_⟩) | ((with_reducible refine gC_ (f := 16) rfl ?_); refine gM_ (some 59) rfl rfl Tryd.func16 (by kernel_rfl) rfl #[.slice A0 l0.length c0] rfl ?_; (with_reducible refine (laws_toNodeS.calls kj15 _ _ l0 t471 _ ?side1 ?side2 A40.out).mono ?_); (case side1 => repeat (first | exact (Kd.C_below HR0.out (Bn_ HB.out)) | (with_reducible refine Kd.C_alloc ?_ _) | (with_reducible refine Kd.C_drewN ?_ _) | (with_reducible refine Kd.C_drew ?_))); (case side2 => exact HC0.out); rintro e w60 ⟨v472, rfl, ho0, hb⟩; refine ⟨_, rfl, ?_⟩; have n0_ := Ad_.mk (Rb_ HO_6.out hb); have n1_ := Ad_.mk (Rb_ HO_8.out hb); have n2_ := Ad_.mk (Kd.R_lower ho0 (bZ_ (Bn_ HB.out))); have n3_ := Ad_.mk (bQ_ HB.out hb); clear HO_6; clear HO_8; clear HB; have HO_6 := n0_; have HO_8 := n1_; have HO473 := n2_; have HB := n3_; clear n0_ n1_ n2_ n3_; (try clear hb); (try clear ho0); obtain ⟨Ao61, co61, eo61⟩ := Kd.R_slice HO473.out; subst eo61) | ((with_reducible refine gC_ (f := 40) rfl ?_); refine gM_ (some 61) rfl rfl Tryd.func40 (by kernel_rfl) rfl #[.slice Ao61 t471.length co61, .int .i64 a1] rfl ?_; (with_reducible refine (impl_OuterOf.calls kj15 _ _ t471 a1 t474 _ ?side1 ?side2 A41.out).mono ?_); (case side1 => repeat (first | exact (Kd.R_reads' HO473.out).2.2 | (with_reducible refine Kd.C_alloc ?_ _) | (with_reducible refine Kd.C_drewN ?_ _) | (with_reducible refine Kd.C_drew ?_))); (case side2 => exact (Kd.R_reads' HO473.out).2.1); rintro e w62 ⟨v475, rfl, ho0, hb⟩; refine ⟨_, rfl, ?_⟩; have n0_ := Ad_.mk (Kd.R_elder' (Ro_ HO_6.out) (Kd.R_base ho0) hb); have n1_ := Ad_.mk (Kd.R_elder' (Ro_ HO_8.out) (Kd.R_base ho0) hb); have n2_ := Ad_.mk (Rb_ HO473.out hb); have n3_ := Ad_.mk (Kd.R_lower (Kd.R_new' (Kd.R_new' ho0 (Kd.R_lt (Ro_ HO_6.out))) (Kd.R_lt (Ro_ HO_8.out))) (bZ_ (Bn_ HB.out))); have n4_ := Ad_.mk (bQ_ HB.out hb); clear HO_6; clear HO_8; clear HO473; clear HB; have HO_6 := n0_; have HO_8 := n1_; have HO473 := n2_; have HO476 := n3_; have HB := n4_; clear n0_ n1_ n2_ n3_ n4_; (try clear hb); (try clear ho0); obtain ⟨Ao63, co63, eo63⟩ := Kd.R_slice HO476.out; subst eo63) | ((with_reducible refine gC_ (f := 41) rfl ?_); refine gM_ (some 64) rfl rfl Tryd.func41 (by kernel_rfl) rfl #[.slice Ao63 t474.length co63, .slice Ao25 t451.length co25] rfl ?_; (with_reducible refine (laws_eqBindS.calls kj15 _ _ t474 _ _ t451 true _ ?side1 ?side2 ?side3 ?side4 A42.out).mono ?_); (case side1 => repeat (first | exact (Kd.R_reads' HO476.out).2.2 | (with_reducible refine Kd.C_alloc ?_ _) | (with_reducible refine Kd.C_drewN ?_ _) | (with_reducible refine Kd.C_drew ?_))); (case side2 => exact (Kd.R_reads' HO476.out).2.1); (case side3 => repeat (first | exact (Kd.R_reads' HO_6.out).2.2 | (with_reducible refine Kd.C_alloc ?_ _) | (with_reducible refine Kd.C_drewN ?_ _) | (with_reducible refine Kd.C_drew ?_))); (case side4 => exact (Kd.R_reads' HO_6.out).2.1); rintro e w64 ⟨rfl, hb⟩; refine ⟨_, rfl, ?_⟩; replace HO_6 := Ad_.mk (Rb_ HO_6.out hb); replace HO_8 := Ad_.mk (Rb_ HO_8.out hb); replace HO473 := Ad_.mk (Rb_ HO473.out hb); replace HO476 := Ad_.mk (Rb_ HO476.out hb); replace HB := Ad_.mk (bQ_ HB.out hb); (try clear hb)) | ((with_reducible refine gC_ (f := 43) rfl ?_); refine goesL_ (some 68) rfl rfl Tryd.func43 (by kernel_rfl) rfl #[.slice Ao24 t469.length co24, .int .i64 1] rfl (by (try simp only [List.map_toArray, List.map_cons, List.map_nil]); first | done | (rw [show t469.length = t457.length from (Kd.R_reads' HO_8.out).1.symm] <;> rfl) | rfl | (simp only [List.length_drop, List.length_take]; rfl)) ?_; (with_reducible refine (laws_heldBindS.calls kj15 _ _ t469 1 t478 _ ?side1 ?side2 A44.out).mono ?_); (case side1 => repeat (first | exact (Kd.R_reads' HO_8.out).2.2 | (with_reducible refine Kd.C_alloc ?_ _) | (with_reducible refine Kd.C_drewN ?_ _) | (with_reducible refine Kd.C_drew ?_))); (case side2 => rw [show t469.length = t457.length from (Kd.R_reads' HO_8.out).1.symm]; exact (Kd.R_reads' HO_8.out).2.1); rintro e w' ⟨rfl, ⟨nd, rfl⟩⟩; refine ⟨_, rfl, ?_⟩))
       go_ret
       exact ⟨er_, Bn_ HB.out⟩
      rw [if_pos c52] at H
      have c52b0 : (t478 == t468) = true := beq_iff_eq.mpr c52
      have c52b1 : (t478 != t468) = false := bne_eq_false_iff_eq.mpr c52
      clear c52
      obtain rfl := Option.some.inj H
      go_wp2_with (first | ((with_reducible refine gC_ (f := 42) rfl ?_); refine gM_ (some 49) rfl rfl Tryd.func42 (by kernel_rfl) rfl #[.slice Ao24 t457.length co24, .int .i64 1] rfl ?_; (with_reducible refine (laws_markBindS.calls kj15 (fun k_ => some k_ = (.slice Ao24 t457.length co24 : Value).ownBlock) (.slice Ao24 t457.length co24) t457 1 t468 t469 w _ ?side1 ?side2 A35.out).mono ?_); (case side1 => repeat (with_reducible first | exact HB.out | apply bA_ | apply bN_ | apply b1_)); (case side2 => exact Kd.R_tight rfl HO_8.out); rintro e w53 ⟨rfl, hy0, hb, hkp⟩; refine ⟨_, rfl, ?_⟩; replace HO_6 := Ad_.mk (Kd.R_mono (ok' := fun k_ => some k_ ≠ (.slice Ao24 t457.length co24 : Value).ownBlock) (Kd.R_keptB (HO_6.out) hkp (fun k_ hk_ hs_ => (hk_) hs_)) (fun k_ hk_ => hk_.1)); replace HO_8 := Ad_.mk (Kd.R_reok rfl hy0 (fun k_ e_ => HO_8.out.1 k_ e_)); replace HB := Ad_.mk (hb); (try clear hb); (try clear hkp); (try clear hy0)) | ((with_reducible refine gC_ (f := 43) rfl ?_); refine goesL_ (some 52) rfl rfl Tryd.func43 (by kernel_rfl) rfl #[.slice Ao24 t469.length co24, .int .i64 1] rfl (by (try simp only [List.map_toArray, List.map_cons, List.map_nil]); first | done | (rw [show t469.length = t457.length from (Kd.R_reads' HO_8.out).1.symm] <;> rfl) | rfl | (simp only [List.length_drop, List.length_take]; rfl)) ?_; (with_reducible refine (laws_heldBindS.calls kj15 _ _ t469 1 t470 _ ?side1 ?side2 A36.out).mono ?_); (case side1 => repeat (first | exact (Kd.R_reads' HO_8.out).2.2 | (with_reducible refine Kd.C_alloc ?_ _) | (with_reducible refine Kd.C_drewN ?_ _) | (with_reducible refine Kd.C_drew ?_))); (case side2 => rw [show t469.length = t457.length from (Kd.R_reads' HO_8.out).1.symm]; exact (Kd.R_reads' HO_8.out).2.1); rintro e w' ⟨rfl, ⟨nd, rfl⟩⟩; refine ⟨_, rfl, ?_⟩) | ((with_reducible refine gC_ (f := 16) rfl ?_); refine gM_ (some 59) rfl rfl Tryd.func16 (by kernel_rfl) rfl #[.slice A0 l0.length c0] rfl ?_; (with_reducible refine (laws_toNodeS.calls kj15 _ _ l0 t471 _ ?side1 ?side2 A40.out).mono ?_); (case side1 => repeat (first | exact (Kd.C_below HR0.out (Bn_ HB.out)) | (with_reducible refine Kd.C_alloc ?_ _) | (with_reducible refine Kd.C_drewN ?_ _) | (with_reducible refine Kd.C_drew ?_))); (case side2 => exact HC0.out); rintro e w54 ⟨v472, rfl, ho0, hb⟩; refine ⟨_, rfl, ?_⟩; have n0_ := Ad_.mk (Rb_ HO_6.out hb); have n1_ := Ad_.mk (Rb_ HO_8.out hb); have n2_ := Ad_.mk (Kd.R_lower ho0 (bZ_ (Bn_ HB.out))); have n3_ := Ad_.mk (bQ_ HB.out hb); clear HO_6; clear HO_8; clear HB; have HO_6 := n0_; have HO_8 := n1_; have HO473 := n2_; have HB := n3_; clear n0_ n1_ n2_ n3_; (try clear hb); (try clear ho0); obtain ⟨Ao55, co55, eo55⟩ := Kd.R_slice HO473.out; subst eo55) | ((with_reducible refine gC_ (f := 40) rfl ?_); refine gM_ (some 61) rfl rfl Tryd.func40 (by kernel_rfl) rfl #[.slice Ao55 t471.length co55, .int .i64 a1] rfl ?_; (with_reducible refine (impl_OuterOf.calls kj15 _ _ t471 a1 t474 _ ?side1 ?side2 A41.out).mono ?_); (case side1 => repeat (first | exact (Kd.R_reads' HO473.out).2.2 | (with_reducible refine Kd.C_alloc ?_ _) | (with_reducible refine Kd.C_drewN ?_ _) | (with_reducible refine Kd.C_drew ?_))); (case side2 => exact (Kd.R_reads' HO473.out).2.1); rintro e w56 ⟨v475, rfl, ho0, hb⟩; refine ⟨_, rfl, ?_⟩; have n0_ := Ad_.mk (Kd.R_elder' (Ro_ HO_6.out) (Kd.R_base ho0) hb); have n1_ := Ad_.mk (Kd.R_elder' (Ro_ HO_8.out) (Kd.R_base ho0) hb); have n2_ := Ad_.mk (Rb_ HO473.out hb); have n3_ := Ad_.mk (Kd.R_lower (Kd.R_new' (Kd.R_new' ho0 (Kd.R_lt (Ro_ HO_6.out))) (Kd.R_lt (Ro_ HO_8.out))) (bZ_ (Bn_ HB.out))); have n4_ := Ad_.mk (bQ_ HB.out hb); clear HO_6; clear HO_8; clear HO473; clear HB; have HO_6 := n0_; have HO_8 := n1_; have HO473 := n2_; have HO476 := n3_; have HB := n4_; clear n0_ n1_ n2_ n3_ n4_; (try clear hb); (try clear ho0); obtain ⟨Ao57, co57, eo57⟩ := Kd.R_slice HO476.out; subst eo57) | ((with_reducible refine gC_ (f := 41) rfl ?_); refine gM_ (some 64) rfl rfl Tryd.func41 (by kernel_rfl) rfl #[.slice Ao57 t474.length co57, .slice Ao25 t451.length co25] rfl ?_; (with_reducible refine (laws_eqBindS.calls kj15 _ _ t474 _ _ t451 true _ ?side1 ?side2 ?side3 ?side4 A42.out).mono ?_); (case side1 => repeat (first | exact (Kd.R_reads' HO476.out).2.2 | (with_reducible refine Kd.C_alloc ?_ _) | (with_reducible refine Kd.C_drewN ?_ _) | (with_reducible refine Kd.C_drew ?_))); (case side2 => exact (Kd.R_reads' HO476.out).2.1); (case side3 => repeat (first | exact (Kd.R_reads' HO_6.out).2.2 | (with_reducible refine Kd.C_alloc ?_ _) | (with_reducible refine Kd.C_drewN ?_ _) | (with_reducible refine Kd.C_drew ?_))); (case side4 => exact (Kd.R_reads' HO_6.out).2.1); rintro e w58 ⟨rfl, hb⟩; refine ⟨_, rfl, ?_⟩; replace HO_6 := Ad_.mk (Rb_ HO_6.out hb); replace HO_8 := Ad_.mk (Rb_ HO_8.out hb); replace HO473 := Ad_.mk (Rb_ HO473.out hb); replace HO476 := Ad_.mk (Rb_ HO476.out hb); replace HB := Ad_.mk (bQ_ HB.out hb); (try clear hb)) | ((with_reducible refine gC_ (f := 43) rfl ?_); refine goesL_ (some 68) rfl rfl Tryd.func43 (by kernel_rfl) rfl #[.slice Ao24 t469.length co24, .int .i64 1] rfl (by (try simp only [List.map_toArray, List.map_cons, List.map_nil]); first | done | (rw [show t469.length = t457.length from (Kd.R_reads' HO_8.out).1.symm] <;> rfl) | rfl | (simp only [List.length_drop, List.length_take]; rfl)) ?_; (with_reducible refine (laws_heldBindS.calls kj15 _ _ t469 1 t478 _ ?side1 ?side2 A44.out).mono ?_); (case side1 => repeat (first | exact (Kd.R_reads' HO_8.out).2.2 | (with_reducible refine Kd.C_alloc ?_ _) | (with_reducible refine Kd.C_drewN ?_ _) | (with_reducible refine Kd.C_drew ?_))); (case side2 => rw [show t469.length = t457.length from (Kd.R_reads' HO_8.out).1.symm]; exact (Kd.R_reads' HO_8.out).2.1); rintro e w' ⟨rfl, ⟨nd, rfl⟩⟩; refine ⟨_, rfl, ?_⟩))
      go_ret
      exact ⟨er_, Bn_ HB.out⟩
end Go.Proofs.YtfmlamheflbgdaaDoor.PAll
end
section
namespace Go.Proofs.YtfmlamheflbgdaaDoor.PAll
open Go.RowKit Go.Proofs.YtfmlamheflbgdaaDoorW.PrintWords Go.Proofs.YtfmlamheflbgdaaDoorW.PrintLast Go.Proofs.YtfmlamheflbgdaaDoorW.PrintMore
attribute [local go_sem] max2_int min2_int max_two min_two max_three min_three max_four min_four
set_option linter.unusedVariables false
set_option linter.unusedSimpArgs false
end Go.Proofs.YtfmlamheflbgdaaDoor.PAll
end
section
namespace Go.Proofs.YtfmlamheflbgdaaDoor.PAll
open Go.RowKit Go.Proofs.YtfmlamheflbgdaaDoorW.PrintWords Go.Proofs.YtfmlamheflbgdaaDoorW.PrintLast Go.Proofs.YtfmlamheflbgdaaDoorW.PrintMore
attribute [local go_sem] max2_int min2_int max_two min_two max_three min_three max_four min_four
set_option linter.unusedVariables false
set_option linter.unusedSimpArgs false
end Go.Proofs.YtfmlamheflbgdaaDoor.PAll
end
