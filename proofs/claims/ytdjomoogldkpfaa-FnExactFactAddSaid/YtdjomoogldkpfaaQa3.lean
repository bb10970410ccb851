/- For each function of the Go program that is named here: its Lean function, and that Go comes to just its answer. Written by a program of the session out of the translation. -/
import Derived.Test.YtdjomoogldkpfaaQa0
import Derived.Test.YtdjomoogldkpfaaQa1
section
namespace Go.Proofs.Ytdjomoogldkpfaa.PAll
open Go.RowKit Go.Proofs.YtdjomoogldkpfaaW.PrintWords Go.Proofs.YtdjomoogldkpfaaW.PrintLast Go.Proofs.YtdjomoogldkpfaaW.PrintMore
attribute [local go_sem] max2_int min2_int max_two min_two max_three min_three max_four min_four
set_option linter.unusedVariables false
set_option linter.unusedSimpArgs false
def impl_AbsAt.l0 : Nat → Int → Int → Int → List (S41) → List (S43) → Int → Int → Option ((List (S41)))
  | 0, _, _, _, _, _, _, _ => none
  | k + 1, x1, x2, x3, x9, x15, x16, x17 => if x17 < x16 then (if 0 ≤ x17 then (if x17 < (x15.length : Int) then (if ((rd_T43 x15 x17).f0) = x1 then (if ((rd_T43 x15 x17).f1) = x2 then (if ((rd_T43 x15 x17).f2) = x3 then (if ((rd_T43 x15 x17).f3.f0) ≥ 0 then (if x9.length < 5864062014805 then (impl_AbsAt.l0 k x1 x2 x3 (x9 ++ [(⟨(rd_T43 x15 x17).f3.f0, (rd_T43 x15 x17).f3.f1, (rd_T43 x15 x17).f3.f2⟩ : S41)]) x15 x16 (wrap64 (x17 + 1))) else (none)) else (impl_AbsAt.l0 k x1 x2 x3 x9 x15 x16 (wrap64 (x17 + 1)))) else (impl_AbsAt.l0 k x1 x2 x3 x9 x15 x16 (wrap64 (x17 + 1)))) else (impl_AbsAt.l0 k x1 x2 x3 x9 x15 x16 (wrap64 (x17 + 1)))) else (impl_AbsAt.l0 k x1 x2 x3 x9 x15 x16 (wrap64 (x17 + 1)))) else (none)) else (none)) else (some x9)
def impl_AbsAt.f (k : Nat) (l0 : List (S43)) (a1 : Int) (a2 : Int) (a3 : Int) : Option ((List (S41))) := (impl_FactsOk.f k l0).bind fun t482 => (if t482 = true then (impl_AbsAt.l0 k a1 a2 a3 ([] : List (S41)) l0 (l0.length : Int) 0) else (some ([] : List (S41))))
theorem impl_AbsAt.mono_l : ∀ k, (∀ y0 y1 y2 y3 y4 y5 y6, LeO (impl_AbsAt.l0 k y0 y1 y2 y3 y4 y5 y6) (impl_AbsAt.l0 (k + 1) y0 y1 y2 y3 y4 y5 y6))
  | 0 => fun _ _ _ _ _ _ _ r h => by simp [impl_AbsAt.l0] at h
  | k + 1 => by
    have ih0 := impl_AbsAt.mono_l k
    · intro y0 y1 y2 y3 y4 y5 y6
      unfold impl_AbsAt.l0
      repeat' first
      | (with_reducible exact ih0 _ _ _ _ _ _ _)
      | (with_reducible exact impl_FactsOk.mono _ _)
      | (with_reducible exact LeO.refl _)
      | (with_reducible exact LeO.none _)
      | (with_reducible refine LeO.ite ?_ ?_)
      | (with_reducible refine LeO.bind ?_ (fun _ => ?_))
      | exact LeO.none _
      | refine LeO.ite ?_ ?_
      | refine LeO.bind ?_ (fun _ => ?_)
theorem impl_AbsAt.mono : ∀ a0 a1 a2 a3 k, LeO (impl_AbsAt.f k a0 a1 a2 a3) (impl_AbsAt.f (k + 1) a0 a1 a2 a3) := by
  intro a0 a1 a2 a3 k
  have ih0 := impl_AbsAt.mono_l k
  unfold impl_AbsAt.f
  repeat' first
      | (with_reducible exact ih0 _ _ _ _ _ _ _)
      | (with_reducible exact impl_FactsOk.mono _ _)
      | (with_reducible exact LeO.refl _)
      | (with_reducible exact LeO.none _)
      | (with_reducible refine LeO.ite ?_ ?_)
      | (with_reducible refine LeO.bind ?_ (fun _ => ?_))
      | exact LeO.none _
      | refine LeO.ite ?_ ?_
      | refine LeO.bind ?_ (fun _ => ?_)
set_option maxHeartbeats 8000000 in
set_option maxRecDepth 100000 in
theorem impl_AbsAt.calls (k : Nat) (A0 : Option Addr) (c0 : Nat) (l0 : List (S43)) (a1 : Int) (a2 : Int) (a3 : Int) (r : List (S41)) (w : World) (hr0 : Kd.C k43 w A0 l0.length l0) (hc0 : l0.length ≤ c0) (h : impl_AbsAt.f k l0 a1 a2 a3 = some r) :
    Calls Try.prog 43 #[.slice A0 l0.length c0, .int .i64 a1, .int .i64 a2, .int .i64 a3] w fun e w' => ∃ v0_ : Value, e = .returned (v0_) ∧ Kd.R k41 41 w' w.heap.size (fun _ => True) v0_ r ∧ Below w.heap.size w w' := by
  have hu43 := Try.underlying43
  have hu41 := Try.underlying41
  have HR0 := Ad_.mk hr0
  have HC0 := Ad_.mk hc0
  clear hr0 hc0
  have HB := Ad_.mk (Below.refl w.heap.size w)
  have H := h
  unfold impl_AbsAt.f at H
  clear h
  replace H := Option.bind_eq_some_iff.mp H
  obtain ⟨t482, A50, H⟩ := H
  try dsimp only at H
  have A5 := Ad_.mk A50
  clear A50
  by_cases c6 : t482 = true
  rotate_left
  ·
   replace c6 := Bool.eq_false_iff.mpr c6
   subst c6
   have H1 : (some ([] : List (S41))) = some r := by rw [if_neg (show ¬ (false = true) by decide)] at H; exact H
   clear H
   have H := H1
   clear H1
   obtain rfl := Option.some.inj H
   go_enter Try.func43, Try.ntmps43
   go_wp2_with (first | ((with_reducible refine gC_ (f := 38) rfl ?_); refine gM_ (some 13) rfl rfl Try.func38 (by kernel_rfl) rfl #[.slice A0 l0.length c0] rfl ?_; (with_reducible refine (impl_FactsOk.calls k _ _ l0 false _ ?side1 ?side2 A5.out).mono ?_); (case side1 => repeat (first | exact HR0.out | (with_reducible refine Kd.C_alloc ?_ _) | (with_reducible refine Kd.C_drewN ?_ _) | (with_reducible refine Kd.C_drew ?_))); (case side2 => exact HC0.out); rintro e w27 ⟨rfl, hb⟩; refine ⟨_, rfl, ?_⟩; have n0_ := Ad_.mk (bP_ (by repeat (with_reducible first | exact HB.out | apply bA_ | apply bN_ | apply b1_)) hb); clear HB; have HB := n0_; clear n0_; (try clear hb); (try clear hb2); (try clear hk); (try clear hi)))
   go_ret
   exact ⟨_, by first | rfl | (simp [errW_none, errW_some] <;> rfl) | (simp [*, errW_none, errW_some] <;> rfl), by first | exact Kd.R_nil _ _ _ _ _ | exact Kd.N_nil _ _ _ _ _ | exact Kd.V_nil _ _ _ _ _ | exact Kd.Q_nil _ _ _ _ _ | exact Kd.S_nil _ _ _ _ _, by repeat (with_reducible first | exact HB.out | apply bA_ | apply bN_ | apply b1_)⟩
  subst c6
  have H1 := H
  rw [if_pos rfl] at H1
  clear H
  have H := H1
  clear H1
  have H' := Ad_.mk H
  clear H
  go_enter Try.func43, Try.ntmps43
  go_wp2_with (first | ((with_reducible refine gC_ (f := 38) rfl ?_); refine gM_ (some 13) rfl rfl Try.func38 (by kernel_rfl) rfl #[.slice A0 l0.length c0] rfl ?_; (with_reducible refine (impl_FactsOk.calls k _ _ l0 true _ ?side1 ?side2 A5.out).mono ?_); (case side1 => repeat (first | exact HR0.out | (with_reducible refine Kd.C_alloc ?_ _) | (with_reducible refine Kd.C_drewN ?_ _) | (with_reducible refine Kd.C_drew ?_))); (case side2 => exact HC0.out); rintro e w7 ⟨rfl, hb⟩; refine ⟨_, rfl, ?_⟩; have n0_ := Ad_.mk (bP_ (by repeat (with_reducible first | exact HB.out | apply bA_ | apply bN_ | apply b1_)) hb); clear HB; have HB := n0_; clear n0_; (try clear hb); (try clear hb2); (try clear hk); (try clear hi)))
  go_loopg [9, 17] k (fun kq v9 v17 w' => ∃ (x9_1 : List (S41)) (x17_1 : Int), v17 = .int .i64 x17_1 ∧ Ad_ (impl_AbsAt.l0 kq a1 a2 a3 x9_1 l0 (l0.length : Int) x17_1 = some r) ∧ Ad_ (kq ≤ k) ∧ Ad_ (Kd.R k41 41 w' w.heap.size (fun _ => True) v9 x9_1) ∧ Ad_ (Below w.heap.size w w'))
  case atStart => exact ⟨(([] : List (S41))), (0), fs_, H', ⟨Nat.le_refl _⟩, ⟨by first | exact Kd.R_nil _ _ _ _ _ | exact Kd.N_nil _ _ _ _ _ | exact Kd.V_nil _ _ _ _ _ | exact Kd.Q_nil _ _ _ _ _ | exact Kd.S_nil _ _ _ _ _⟩, ⟨by repeat (with_reducible first | exact HB.out | apply bA_ | apply bN_ | apply b1_)⟩⟩
  case round =>
    clear H'
    try clear p2
    obtain ⟨x9_1, x17_1, rfl, HA, HK1, HO_9, HB⟩ := hrel
    cases gk with
    | zero => exact absurd HA.out (by simp [impl_AbsAt.l0])
    | succ k1 =>
      have H := HA.out
      clear HA
      simp only [impl_AbsAt.l0] at H
      by_cases c8 : x17_1 < (l0.length : Int)
      rotate_left
      ·
       rw [if_neg c8] at H
       have c8b0 := decide_eq_false c8
       clear c8
       obtain rfl := Option.some.inj H
       go_wp2
       go_ret
       exact ⟨_, by first | rfl | (simp [errW_none, errW_some] <;> rfl) | (simp [*, errW_none, errW_some] <;> rfl), by (with_reducible repeat (first | apply Kd.R_alloc | apply Kd.R_drewN | apply Kd.R_drew)); exact HO_9.out, by repeat (with_reducible first | exact HB.out | apply bA_ | apply bN_ | apply b1_)⟩
      rw [if_pos c8] at H
      have c8b0 := decide_eq_true c8
      clear c8
      by_cases c9 : 0 ≤ x17_1
      rotate_left
      ·
       rw [if_neg c9] at H
       exact absurd H (by simp)
      rw [if_pos c9] at H
      have c9b0 := decide_eq_true c9
      clear c9
      by_cases c10 : x17_1 < (l0.length : Int)
      rotate_left
      ·
       rw [if_neg c10] at H
       exact absurd H (by simp)
      rw [if_pos c10] at H
      have c10b0 := decide_eq_true c10
      clear c10
      by_cases c11 : ((rd_T43 l0 x17_1).f0) = a1
      rotate_left
      ·
       rw [if_neg c11] at H
       have c11b0 : (((rd_T43 l0 x17_1).f0) == a1) = false := beq_eq_false_iff_ne.mpr c11
       have c11b1 : (((rd_T43 l0 x17_1).f0) != a1) = true := bne_iff_ne.mpr c11
       have H' := Ad_.mk H
       clear H
       have p483 : 0 ≤ (x17_1 : Int) := od_
       have q483 : x17_1 < (l0.length : Int) := od_
       obtain ⟨ad483, e483, hx483_0, hx483_1, hx483_2, hx483_3, hx483_4, hx483_5⟩ := at_T43 HR0.out x17_1 p483 q483
       cases e483
       replace hx483_0 := pB_ HB.out hx483_0
       replace hx483_1 := pB_ HB.out hx483_1
       replace hx483_2 := pB_ HB.out hx483_2
       replace hx483_3 := pB_ HB.out hx483_3
       replace hx483_4 := pB_ HB.out hx483_4
       replace hx483_5 := pB_ HB.out hx483_5
       replace p483 := eq_true p483
       replace q483 := eq_true q483
       go_wp2_with (first | ((with_reducible refine gD_ (N := 11) rfl ?_); refine bE_ ?hg (N := 11) ?hd (cs := #[.int .i64 0, .int .i64 0, .int .i64 0, .int .i64 0, .int .i64 0, .int .i64 0]) (t := 43) ?hr ?_; (case hd => rfl); (case hg => rfl); (case hr => first | (go_simp; done) | (go_simp; rfl)); intro gb484 hg w25 hbox hb; have n0_ := Ad_.mk (Kd.R_below (by (with_reducible repeat (first | apply Kd.R_alloc | apply Kd.R_drewN | apply Kd.R_drew)); exact HO_9.out) hb); have n1_ := Ad_.mk (bP_ (by repeat (with_reducible first | exact HB.out | apply bA_ | apply bN_ | apply b1_)) hb); have n2_ := Ad_.mk (hbox); have n3_ := Ad_.mk ((by rw [hg]; exact (bZ_ (by repeat (with_reducible first | exact HB.out | apply bA_ | apply bN_ | apply b1_))) : w.heap.size ≤ gb484)); have n4_ := Ad_.mk ((by rw [hg]; exact (bZ_ (by repeat (with_reducible first | exact HB.out | apply bA_ | apply bN_ | apply b1_))) : w.heap.size ≤ gb484)); clear HO_9; clear HB; have HO_9 := n0_; have HB := n1_; have BK484 := n2_; have GW484 := n3_; have GE484 := n4_; clear n0_ n1_ n2_ n3_ n4_; clear hb hbox hg; obtain ⟨hcz26_0, hcz26_1, hcz26_2, hcz26_3, hcz26_4, hcz26_5⟩ := cells6_ BK484.out; obtain ⟨hfz26_0, hfz26_1, hfz26_2, hfz26_3, hfz26_4, hfz26_5⟩ := froz6_ BK484.out))
       go_roundg k1
       case measure => have := HK1.out; omega
       case rel => exact ⟨(x9_1), (wrap64 (x17_1 + 1)), fs_, H', ⟨by have := HK1.out; omega⟩, ⟨by (with_reducible repeat (first | apply Kd.R_alloc | apply Kd.R_drewN | apply Kd.R_drew)); exact Kd.R_mono (Kd.R_far (p := ⟨gb484, 5, none⟩) (Kd.R_far (p := ⟨gb484, 4, none⟩) (Kd.R_far (p := ⟨gb484, 3, none⟩) (Kd.R_far (p := ⟨gb484, 2, none⟩) (Kd.R_far (p := ⟨gb484, 1, none⟩) (Kd.R_far (p := ⟨gb484, 0, none⟩) (Kd.R_types HO_9.out BK484.out (by decide)) (fun _ hk => hk.2) (.int .i64 ((rd_T43 l0 x17_1).f0))) (fun _ hk => hk.2) (.int .i64 ((rd_T43 l0 x17_1).f1))) (fun _ hk => hk.2) (.int .i64 ((rd_T43 l0 x17_1).f2))) (fun _ hk => hk.2) (.int .i64 ((rd_T43 l0 x17_1).f3.f0))) (fun _ hk => hk.2) (.int .i64 ((rd_T43 l0 x17_1).f3.f1))) (fun _ hk => hk.2) (.int .i64 ((rd_T43 l0 x17_1).f3.f2))) (fun _ hk => trivial)⟩, ⟨by repeat (with_reducible first | exact HB.out | apply bA_ | apply bN_ | apply b1_ | refine bS_ ?_ GE484.out)⟩⟩
      rw [if_pos c11] at H
      have c11b0 : (((rd_T43 l0 x17_1).f0) == a1) = true := beq_iff_eq.mpr c11
      have c11b1 : (((rd_T43 l0 x17_1).f0) != a1) = false := bne_eq_false_iff_eq.mpr c11
      clear c11
      by_cases c12 : ((rd_T43 l0 x17_1).f1) = a2
      rotate_left
      ·
       rw [if_neg c12] at H
       have c12b0 : (((rd_T43 l0 x17_1).f1) == a2) = false := beq_eq_false_iff_ne.mpr c12
       have c12b1 : (((rd_T43 l0 x17_1).f1) != a2) = true := bne_iff_ne.mpr c12
       have H' := Ad_.mk H
       clear H
       have p483 : 0 ≤ (x17_1 : Int) := od_
       have q483 : x17_1 < (l0.length : Int) := od_
       obtain ⟨ad483, e483, hx483_0, hx483_1, hx483_2, hx483_3, hx483_4, hx483_5⟩ := at_T43 HR0.out x17_1 p483 q483
       cases e483
       replace hx483_0 := pB_ HB.out hx483_0
       replace hx483_1 := pB_ HB.out hx483_1
       replace hx483_2 := pB_ HB.out hx483_2
       replace hx483_3 := pB_ HB.out hx483_3
       replace hx483_4 := pB_ HB.out hx483_4
       replace hx483_5 := pB_ HB.out hx483_5
       replace p483 := eq_true p483
       replace q483 := eq_true q483
       go_wp2_with (first | ((with_reducible refine gD_ (N := 11) rfl ?_); refine bE_ ?hg (N := 11) ?hd (cs := #[.int .i64 0, .int .i64 0, .int .i64 0, .int .i64 0, .int .i64 0, .int .i64 0]) (t := 43) ?hr ?_; (case hd => rfl); (case hg => rfl); (case hr => first | (go_simp; done) | (go_simp; rfl)); intro gb484 hg w23 hbox hb; have n0_ := Ad_.mk (Kd.R_below (by (with_reducible repeat (first | apply Kd.R_alloc | apply Kd.R_drewN | apply Kd.R_drew)); exact HO_9.out) hb); have n1_ := Ad_.mk (bP_ (by repeat (with_reducible first | exact HB.out | apply bA_ | apply bN_ | apply b1_)) hb); have n2_ := Ad_.mk (hbox); have n3_ := Ad_.mk ((by rw [hg]; exact (bZ_ (by repeat (with_reducible first | exact HB.out | apply bA_ | apply bN_ | apply b1_))) : w.heap.size ≤ gb484)); have n4_ := Ad_.mk ((by rw [hg]; exact (bZ_ (by repeat (with_reducible first | exact HB.out | apply bA_ | apply bN_ | apply b1_))) : w.heap.size ≤ gb484)); clear HO_9; clear HB; have HO_9 := n0_; have HB := n1_; have BK484 := n2_; have GW484 := n3_; have GE484 := n4_; clear n0_ n1_ n2_ n3_ n4_; clear hb hbox hg; obtain ⟨hcz24_0, hcz24_1, hcz24_2, hcz24_3, hcz24_4, hcz24_5⟩ := cells6_ BK484.out; obtain ⟨hfz24_0, hfz24_1, hfz24_2, hfz24_3, hfz24_4, hfz24_5⟩ := froz6_ BK484.out))
       go_roundg k1
       case measure => have := HK1.out; omega
       case rel => exact ⟨(x9_1), (wrap64 (x17_1 + 1)), fs_, H', ⟨by have := HK1.out; omega⟩, ⟨by (with_reducible repeat (first | apply Kd.R_alloc | apply Kd.R_drewN | apply Kd.R_drew)); exact Kd.R_mono (Kd.R_far (p := ⟨gb484, 5, none⟩) (Kd.R_far (p := ⟨gb484, 4, none⟩) (Kd.R_far (p := ⟨gb484, 3, none⟩) (Kd.R_far (p := ⟨gb484, 2, none⟩) (Kd.R_far (p := ⟨gb484, 1, none⟩) (Kd.R_far (p := ⟨gb484, 0, none⟩) (Kd.R_types HO_9.out BK484.out (by decide)) (fun _ hk => hk.2) (.int .i64 ((rd_T43 l0 x17_1).f0))) (fun _ hk => hk.2) (.int .i64 ((rd_T43 l0 x17_1).f1))) (fun _ hk => hk.2) (.int .i64 ((rd_T43 l0 x17_1).f2))) (fun _ hk => hk.2) (.int .i64 ((rd_T43 l0 x17_1).f3.f0))) (fun _ hk => hk.2) (.int .i64 ((rd_T43 l0 x17_1).f3.f1))) (fun _ hk => hk.2) (.int .i64 ((rd_T43 l0 x17_1).f3.f2))) (fun _ hk => trivial)⟩, ⟨by repeat (with_reducible first | exact HB.out | apply bA_ | apply bN_ | apply b1_ | refine bS_ ?_ GE484.out)⟩⟩
      rw [if_pos c12] at H
      have c12b0 : (((rd_T43 l0 x17_1).f1) == a2) = true := beq_iff_eq.mpr c12
      have c12b1 : (((rd_T43 l0 x17_1).f1) != a2) = false := bne_eq_false_iff_eq.mpr c12
      clear c12
      by_cases c13 : ((rd_T43 l0 x17_1).f2) = a3
      rotate_left
      ·
       rw [if_neg c13] at H
       have c13b0 : (((rd_T43 l0 x17_1).f2) == a3) = false := beq_eq_false_iff_ne.mpr c13
       have c13b1 : (((rd_T43 l0 x17_1).f2) != a3) = true := bne_iff_ne.mpr c13
       have H' := Ad_.mk H
       clear H
       have p483 : 0 ≤ (x17_1 : Int) := od_
       have q483 : x17_1 < (l0.length : Int) := od_
       obtain ⟨ad483, e483, hx483_0, hx483_1, hx483_2, hx483_3, hx483_4, hx483_5⟩ := at_T43 HR0.out x17_1 p483 q483
       cases e483
       replace hx483_0 := pB_ HB.out hx483_0
       replace hx483_1 := pB_ HB.out hx483_1
       replace hx483_2 := pB_ HB.out hx483_2
       replace hx483_3 := pB_ HB.out hx483_3
       replace hx483_4 := pB_ HB.out hx483_4
       replace hx483_5 := pB_ HB.out hx483_5
       replace p483 := eq_true p483
       replace q483 := eq_true q483
       go_wp2_with (first | ((with_reducible refine gD_ (N := 11) rfl ?_); refine bE_ ?hg (N := 11) ?hd (cs := #[.int .i64 0, .int .i64 0, .int .i64 0, .int .i64 0, .int .i64 0, .int .i64 0]) (t := 43) ?hr ?_; (case hd => rfl); (case hg => rfl); (case hr => first | (go_simp; done) | (go_simp; rfl)); intro gb484 hg w21 hbox hb; have n0_ := Ad_.mk (Kd.R_below (by (with_reducible repeat (first | apply Kd.R_alloc | apply Kd.R_drewN | apply Kd.R_drew)); exact HO_9.out) hb); have n1_ := Ad_.mk (bP_ (by repeat (with_reducible first | exact HB.out | apply bA_ | apply bN_ | apply b1_)) hb); have n2_ := Ad_.mk (hbox); have n3_ := Ad_.mk ((by rw [hg]; exact (bZ_ (by repeat (with_reducible first | exact HB.out | apply bA_ | apply bN_ | apply b1_))) : w.heap.size ≤ gb484)); have n4_ := Ad_.mk ((by rw [hg]; exact (bZ_ (by repeat (with_reducible first | exact HB.out | apply bA_ | apply bN_ | apply b1_))) : w.heap.size ≤ gb484)); clear HO_9; clear HB; have HO_9 := n0_; have HB := n1_; have BK484 := n2_; have GW484 := n3_; have GE484 := n4_; clear n0_ n1_ n2_ n3_ n4_; clear hb hbox hg; obtain ⟨hcz22_0, hcz22_1, hcz22_2, hcz22_3, hcz22_4, hcz22_5⟩ := cells6_ BK484.out; obtain ⟨hfz22_0, hfz22_1, hfz22_2, hfz22_3, hfz22_4, hfz22_5⟩ := froz6_ BK484.out))
       go_roundg k1
       case measure => have := HK1.out; omega
       case rel => exact ⟨(x9_1), (wrap64 (x17_1 + 1)), fs_, H', ⟨by have := HK1.out; omega⟩, ⟨by (with_reducible repeat (first | apply Kd.R_alloc | apply Kd.R_drewN | apply Kd.R_drew)); exact Kd.R_mono (Kd.R_far (p := ⟨gb484, 5, none⟩) (Kd.R_far (p := ⟨gb484, 4, none⟩) (Kd.R_far (p := ⟨gb484, 3, none⟩) (Kd.R_far (p := ⟨gb484, 2, none⟩) (Kd.R_far (p := ⟨gb484, 1, none⟩) (Kd.R_far (p := ⟨gb484, 0, none⟩) (Kd.R_types HO_9.out BK484.out (by decide)) (fun _ hk => hk.2) (.int .i64 ((rd_T43 l0 x17_1).f0))) (fun _ hk => hk.2) (.int .i64 ((rd_T43 l0 x17_1).f1))) (fun _ hk => hk.2) (.int .i64 ((rd_T43 l0 x17_1).f2))) (fun _ hk => hk.2) (.int .i64 ((rd_T43 l0 x17_1).f3.f0))) (fun _ hk => hk.2) (.int .i64 ((rd_T43 l0 x17_1).f3.f1))) (fun _ hk => hk.2) (.int .i64 ((rd_T43 l0 x17_1).f3.f2))) (fun _ hk => trivial)⟩, ⟨by repeat (with_reducible first | exact HB.out | apply bA_ | apply bN_ | apply b1_ | refine bS_ ?_ GE484.out)⟩⟩
      rw [if_pos c13] at H
      have c13b0 : (((rd_T43 l0 x17_1).f2) == a3) = true := beq_iff_eq.mpr c13
      have c13b1 : (((rd_T43 l0 x17_1).f2) != a3) = false := bne_eq_false_iff_eq.mpr c13
      clear c13
      by_cases c14 : ((rd_T43 l0 x17_1).f3.f0) ≥ 0
      rotate_left
      ·
       rw [if_neg c14] at H
       have c14b0 := decide_eq_false c14
       clear c14
       have H' := Ad_.mk H
       clear H
       have p483 : 0 ≤ (x17_1 : Int) := od_
       have q483 : x17_1 < (l0.length : Int) := od_
       obtain ⟨ad483, e483, hx483_0, hx483_1, hx483_2, hx483_3, hx483_4, hx483_5⟩ := at_T43 HR0.out x17_1 p483 q483
       cases e483
       replace hx483_0 := pB_ HB.out hx483_0
       replace hx483_1 := pB_ HB.out hx483_1
       replace hx483_2 := pB_ HB.out hx483_2
       replace hx483_3 := pB_ HB.out hx483_3
       replace hx483_4 := pB_ HB.out hx483_4
       replace hx483_5 := pB_ HB.out hx483_5
       replace p483 := eq_true p483
       replace q483 := eq_true q483
       go_wp2_with (first | ((with_reducible refine gD_ (N := 11) rfl ?_); refine bE_ ?hg (N := 11) ?hd (cs := #[.int .i64 0, .int .i64 0, .int .i64 0, .int .i64 0, .int .i64 0, .int .i64 0]) (t := 43) ?hr ?_; (case hd => rfl); (case hg => rfl); (case hr => first | (go_simp; done) | (go_simp; rfl)); intro gb484 hg w19 hbox hb; have n0_ := Ad_.mk (Kd.R_below (by (with_reducible repeat (first | apply Kd.R_alloc | apply Kd.R_drewN | apply Kd.R_drew)); exact HO_9.out) hb); have n1_ := Ad_.mk (bP_ (by repeat (with_reducible first | exact HB.out | apply bA_ | apply bN_ | apply b1_)) hb); have n2_ := Ad_.mk (hbox); have n3_ := Ad_.mk ((by rw [hg]; exact (bZ_ (by repeat (with_reducible first | exact HB.out | apply bA_ | apply bN_ | apply b1_))) : w.heap.size ≤ gb484)); have n4_ := Ad_.mk ((by rw [hg]; exact (bZ_ (by repeat (with_reducible first | exact HB.out | apply bA_ | apply bN_ | apply b1_))) : w.heap.size ≤ gb484)); clear HO_9; clear HB; have HO_9 := n0_; have HB := n1_; have BK484 := n2_; have GW484 := n3_; have GE484 := n4_; clear n0_ n1_ n2_ n3_ n4_; clear hb hbox hg; obtain ⟨hcz20_0, hcz20_1, hcz20_2, hcz20_3, hcz20_4, hcz20_5⟩ := cells6_ BK484.out; obtain ⟨hfz20_0, hfz20_1, hfz20_2, hfz20_3, hfz20_4, hfz20_5⟩ := froz6_ BK484.out))
       go_roundg k1
       case measure => have := HK1.out; omega
       case rel => exact ⟨(x9_1), (wrap64 (x17_1 + 1)), fs_, H', ⟨by have := HK1.out; omega⟩, ⟨by (with_reducible repeat (first | apply Kd.R_alloc | apply Kd.R_drewN | apply Kd.R_drew)); exact Kd.R_mono (Kd.R_far (p := ⟨gb484, 5, none⟩) (Kd.R_far (p := ⟨gb484, 4, none⟩) (Kd.R_far (p := ⟨gb484, 3, none⟩) (Kd.R_far (p := ⟨gb484, 2, none⟩) (Kd.R_far (p := ⟨gb484, 1, none⟩) (Kd.R_far (p := ⟨gb484, 0, none⟩) (Kd.R_types HO_9.out BK484.out (by decide)) (fun _ hk => hk.2) (.int .i64 ((rd_T43 l0 x17_1).f0))) (fun _ hk => hk.2) (.int .i64 ((rd_T43 l0 x17_1).f1))) (fun _ hk => hk.2) (.int .i64 ((rd_T43 l0 x17_1).f2))) (fun _ hk => hk.2) (.int .i64 ((rd_T43 l0 x17_1).f3.f0))) (fun _ hk => hk.2) (.int .i64 ((rd_T43 l0 x17_1).f3.f1))) (fun _ hk => hk.2) (.int .i64 ((rd_T43 l0 x17_1).f3.f2))) (fun _ hk => trivial)⟩, ⟨by repeat (with_reducible first | exact HB.out | apply bA_ | apply bN_ | apply b1_ | refine bS_ ?_ GE484.out)⟩⟩
      rw [if_pos c14] at H
      have c14b0 := decide_eq_true c14
      clear c14
      by_cases c15 : x9_1.length < 5864062014805
      rotate_left
      ·
       rw [if_neg c15] at H
       exact absurd H (by simp)
      rw [if_pos c15] at H
      have LMc15 := Ad_.mk c15
      clear c15
      obtain ⟨y485, hy485⟩ : ∃ y_ : List (S41), y_ = (x9_1 ++ [(⟨(rd_T43 l0 x17_1).f3.f0, (rd_T43 l0 x17_1).f3.f1, (rd_T43 l0 x17_1).f3.f2⟩ : S41)]) := ⟨_, rfl⟩
      replace H : (impl_AbsAt.l0 k1 a1 a2 a3 y485 l0 (l0.length : Int) (wrap64 (x17_1 + 1))) = some r := by first | (rw [hy485]; with_reducible exact H) | (have H2_ := (Option.bind_some _ _).symm.trans H; rw [hy485]; with_reducible exact H2_) | (have H2_ := (Option.bind_some _ _).symm.trans H; with_reducible exact H2_) | with_reducible exact H | (rw [hy485]; exact H) | exact H
      have Ny485 := Ad_.mk hy485
      clear hy485
      have H' := Ad_.mk H
      clear H
      have p483 : 0 ≤ (x17_1 : Int) := od_
      have q483 : x17_1 < (l0.length : Int) := od_
      obtain ⟨ad483, e483, hx483_0, hx483_1, hx483_2, hx483_3, hx483_4, hx483_5⟩ := at_T43 HR0.out x17_1 p483 q483
      cases e483
      replace hx483_0 := pB_ HB.out hx483_0
      replace hx483_1 := pB_ HB.out hx483_1
      replace hx483_2 := pB_ HB.out hx483_2
      replace hx483_3 := pB_ HB.out hx483_3
      replace hx483_4 := pB_ HB.out hx483_4
      replace hx483_5 := pB_ HB.out hx483_5
      replace p483 := eq_true p483
      replace q483 := eq_true q483
      go_wp2_with (first | ((with_reducible refine gD_ (N := 11) rfl ?_); refine bE_ ?hg (N := 11) ?hd (cs := #[.int .i64 0, .int .i64 0, .int .i64 0, .int .i64 0, .int .i64 0, .int .i64 0]) (t := 43) ?hr ?_; (case hd => rfl); (case hg => rfl); (case hr => first | (go_simp; done) | (go_simp; rfl)); intro gb484 hg w16 hbox hb; have n0_ := Ad_.mk (Kd.R_below (by (with_reducible repeat (first | apply Kd.R_alloc | apply Kd.R_drewN | apply Kd.R_drew)); exact HO_9.out) hb); have n1_ := Ad_.mk (bP_ (by repeat (with_reducible first | exact HB.out | apply bA_ | apply bN_ | apply b1_)) hb); have n2_ := Ad_.mk (hbox); have n3_ := Ad_.mk ((by rw [hg]; exact (bZ_ (by repeat (with_reducible first | exact HB.out | apply bA_ | apply bN_ | apply b1_))) : w.heap.size ≤ gb484)); have n4_ := Ad_.mk ((by rw [hg]; exact (bZ_ (by repeat (with_reducible first | exact HB.out | apply bA_ | apply bN_ | apply b1_))) : w.heap.size ≤ gb484)); clear HO_9; clear HB; have HO_9 := n0_; have HB := n1_; have BK484 := n2_; have GW484 := n3_; have GE484 := n4_; clear n0_ n1_ n2_ n3_ n4_; clear hb hbox hg; obtain ⟨hcz17_0, hcz17_1, hcz17_2, hcz17_3, hcz17_4, hcz17_5⟩ := cells6_ BK484.out; obtain ⟨hfz17_0, hfz17_1, hfz17_2, hfz17_3, hfz17_4, hfz17_5⟩ := froz6_ BK484.out) | ((with_reducible refine gB_ (b := .append) (xs := #[.tmp 43, .tmp 46]) rfl ?_); at_builtin; refine Kd.R_append k41 (w0 := w) w.heap.size rfl (.tmp 43) (.tmp 46) 63 41 (.agg #[(.int .i64 0), (.int .i64 0), (.int .i64 0)]) 24 rfl Try.underlying63 info41 rfl (by decide) (by omega) u9 x9_1 (⟨(rd_T43 l0 x17_1).f3.f0, (rd_T43 l0 x17_1).f3.f1, (rd_T43 l0 x17_1).f3.f2⟩ : S41) [.int .i64 ((rd_T43 l0 x17_1).f3.f0), .int .i64 ((rd_T43 l0 x17_1).f3.f1), .int .i64 ((rd_T43 l0 x17_1).f3.f2)] (fun _ => True) (fun _ => False) rfl (by first | (go_simp; done) | (go_simp; rfl)) ?aP (fun _ hk => hk.elim) ?aF ?aO ?aB ?aS ?aL ?_; (case aP => exact k41_mkM _ _ _ (⟨(rd_T43 l0 x17_1).f3.f0, (rd_T43 l0 x17_1).f3.f1, (rd_T43 l0 x17_1).f3.f2⟩ : S41)); (case aB => exact (by repeat (with_reducible first | exact HB.out | apply bA_ | apply bN_ | apply b1_ | refine bS_ ?_ GE484.out))); (case aF => exact (fun _ _ => trivial)); (case aO => exact (by (with_reducible repeat (first | apply Kd.R_alloc | apply Kd.R_drewN | apply Kd.R_drew)); exact Kd.R_mono (Kd.R_far (p := ⟨gb484, 5, none⟩) (Kd.R_far (p := ⟨gb484, 4, none⟩) (Kd.R_far (p := ⟨gb484, 3, none⟩) (Kd.R_far (p := ⟨gb484, 2, none⟩) (Kd.R_far (p := ⟨gb484, 1, none⟩) (Kd.R_far (p := ⟨gb484, 0, none⟩) (Kd.R_types HO_9.out BK484.out (by decide)) (fun _ hk => hk.2) (.int .i64 ((rd_T43 l0 x17_1).f0))) (fun _ hk => hk.2) (.int .i64 ((rd_T43 l0 x17_1).f1))) (fun _ hk => hk.2) (.int .i64 ((rd_T43 l0 x17_1).f2))) (fun _ hk => hk.2) (.int .i64 ((rd_T43 l0 x17_1).f3.f0))) (fun _ hk => hk.2) (.int .i64 ((rd_T43 l0 x17_1).f3.f1))) (fun _ hk => hk.2) (.int .i64 ((rd_T43 l0 x17_1).f3.f2))) (fun _ hk => trivial))); (case aS => exact (bZ_ (by repeat (with_reducible first | exact HB.out | apply bA_ | apply bN_ | apply b1_ | refine bS_ ?_ GE484.out)))); (case aL => have := LMc15.out; omega); intro v486 w18 ho hb hg hat; rw [← Ny485.out] at ho; have n0_ := Ad_.mk (blk_grown (g := gb484) (o := .cells #[.int .i64 ((rd_T43 l0 x17_1).f0), .int .i64 ((rd_T43 l0 x17_1).f1), .int .i64 ((rd_T43 l0 x17_1).f2), .int .i64 ((rd_T43 l0 x17_1).f3.f0), .int .i64 ((rd_T43 l0 x17_1).f3.f1), .int .i64 ((rd_T43 l0 x17_1).f3.f2)] 43 (0, 0)) (by (with_reducible repeat (first | refine kN_ ?_ _ | refine k1_ ?_ | refine kA_ ?_ _)); refine blk_put (cs := #[.int .i64 ((rd_T43 l0 x17_1).f0), .int .i64 ((rd_T43 l0 x17_1).f1), .int .i64 ((rd_T43 l0 x17_1).f2), .int .i64 ((rd_T43 l0 x17_1).f3.f0), .int .i64 ((rd_T43 l0 x17_1).f3.f1), .int .i64 0]) ?_ 5 _ rfl; (with_reducible repeat (first | refine kN_ ?_ _ | refine k1_ ?_ | refine kA_ ?_ _)); refine blk_put (cs := #[.int .i64 ((rd_T43 l0 x17_1).f0), .int .i64 ((rd_T43 l0 x17_1).f1), .int .i64 ((rd_T43 l0 x17_1).f2), .int .i64 ((rd_T43 l0 x17_1).f3.f0), .int .i64 0, .int .i64 0]) ?_ 4 _ rfl; (with_reducible repeat (first | refine kN_ ?_ _ | refine k1_ ?_ | refine kA_ ?_ _)); refine blk_put (cs := #[.int .i64 ((rd_T43 l0 x17_1).f0), .int .i64 ((rd_T43 l0 x17_1).f1), .int .i64 ((rd_T43 l0 x17_1).f2), .int .i64 0, .int .i64 0, .int .i64 0]) ?_ 3 _ rfl; (with_reducible repeat (first | refine kN_ ?_ _ | refine k1_ ?_ | refine kA_ ?_ _)); refine blk_put (cs := #[.int .i64 ((rd_T43 l0 x17_1).f0), .int .i64 ((rd_T43 l0 x17_1).f1), .int .i64 0, .int .i64 0, .int .i64 0, .int .i64 0]) ?_ 2 _ rfl; (with_reducible repeat (first | refine kN_ ?_ _ | refine k1_ ?_ | refine kA_ ?_ _)); refine blk_put (cs := #[.int .i64 ((rd_T43 l0 x17_1).f0), .int .i64 0, .int .i64 0, .int .i64 0, .int .i64 0, .int .i64 0]) ?_ 1 _ rfl; (with_reducible repeat (first | refine kN_ ?_ _ | refine k1_ ?_ | refine kA_ ?_ _)); refine blk_put (cs := #[.int .i64 0, .int .i64 0, .int .i64 0, .int .i64 0, .int .i64 0, .int .i64 0]) ?_ 0 _ rfl; (with_reducible repeat (first | refine kN_ ?_ _ | refine k1_ ?_ | refine kA_ ?_ _)); exact BK484.out) hg (Kd.R_ne HO_9.out BK484.out (by decide))); have n1_ := Ad_.mk (hb); have n2_ := Ad_.mk (ho); clear BK484; clear HB; clear HO_9; have BK484 := n0_; have HB := n1_; have HO487 := n2_; clear n0_ n1_ n2_; clear ho hb hg hat))
      go_roundg k1
      case measure => have := HK1.out; omega
      case rel => exact ⟨(y485), (wrap64 (x17_1 + 1)), fs_, H', ⟨by have := HK1.out; omega⟩, ⟨by (with_reducible repeat (first | apply Kd.R_alloc | apply Kd.R_drewN | apply Kd.R_drew)); exact HO487.out⟩, ⟨by repeat (with_reducible first | exact HB.out | apply bA_ | apply bN_ | apply b1_ | refine bS_ ?_ GE484.out)⟩⟩
end Go.Proofs.Ytdjomoogldkpfaa.PAll
end
section
namespace Go.Proofs.Ytdjomoogldkpfaa.PAll
open Go.RowKit Go.Proofs.YtdjomoogldkpfaaW.PrintWords Go.Proofs.YtdjomoogldkpfaaW.PrintLast Go.Proofs.YtdjomoogldkpfaaW.PrintMore
attribute [local go_sem] max2_int min2_int max_two min_two max_three min_three max_four min_four
set_option linter.unusedVariables false
set_option linter.unusedSimpArgs false
mutual
def spec_l15At.l0 : Nat → List (S43) → Int → Int → Int → List (S41) → Int → Option ((List (S41)))
  | 0, _, _, _, _, _, _ => none
  | k + 1, x0, x1, x2, x3, x9, x10 => if x10 < (x0.length : Int) then (if 0 ≤ x10 then (if ((rd_T43 x0 x10).f0) = x1 then (if ((rd_T43 x0 x10).f1) = x2 then (spec_l15At.j1 k x0 x1 x2 x3 x9 x10 (((rd_T43 x0 x10).f2) == x3)) else (spec_l15At.j1 k x0 x1 x2 x3 x9 x10 false)) else (spec_l15At.j1 k x0 x1 x2 x3 x9 x10 false)) else (none)) else (spec_l15At.j1 k x0 x1 x2 x3 x9 x10 false)
def spec_l15At.j1 : Nat → List (S43) → Int → Int → Int → List (S41) → Int → Bool → Option ((List (S41)))
  | 0, _, _, _, _, _, _, _ => none
  | k + 1, x0, x1, x2, x3, x9, x10, x49 => if x49 = true then (if 0 ≤ x10 then (if x10 < (x0.length : Int) then (if ((rd_T43 x0 x10).f3.f0) ≥ 0 then (if x9.length < 5864062014805 then (spec_l15At.l0 k x0 x1 x2 x3 (x9 ++ [(⟨(rd_T43 x0 x10).f3.f0, (rd_T43 x0 x10).f3.f1, (rd_T43 x0 x10).f3.f2⟩ : S41)]) (wrap64 (x10 + 1))) else (none)) else (spec_l15At.l0 k x0 x1 x2 x3 x9 (wrap64 (x10 + 1)))) else (none)) else (none)) else (some x9)
end
def spec_l15At.f (k : Nat) (l0 : List (S43)) (a1 : Int) (a2 : Int) (a3 : Int) : Option ((List (S41))) := (spec_l15Place.f k l0 a1 a2 a3 (-1) 0 0).bind fun t502 => (spec_l15At.l0 k l0 a1 a2 a3 (([] : List (S41))) t502)
theorem spec_l15At.mono_l : ∀ k, (∀ y0 y1 y2 y3 y4 y5, LeO (spec_l15At.l0 k y0 y1 y2 y3 y4 y5) (spec_l15At.l0 (k + 1) y0 y1 y2 y3 y4 y5)) ∧ (∀ y0 y1 y2 y3 y4 y5 y6, LeO (spec_l15At.j1 k y0 y1 y2 y3 y4 y5 y6) (spec_l15At.j1 (k + 1) y0 y1 y2 y3 y4 y5 y6))
  | 0 => ⟨fun _ _ _ _ _ _ r h => by simp [spec_l15At.l0] at h, fun _ _ _ _ _ _ _ r h => by simp [spec_l15At.j1] at h⟩
  | k + 1 => by
    obtain ⟨ih0, ih1⟩ := spec_l15At.mono_l k
    refine ⟨?_, ?_⟩
    (intro y0 y1 y2 y3 y4 y5; unfold spec_l15At.l0; rotate_left)
    (intro y0 y1 y2 y3 y4 y5 y6; unfold spec_l15At.j1; rotate_left)
    all_goals
      repeat' first
      | (with_reducible exact ih0 _ _ _ _ _ _)
      | (with_reducible exact ih1 _ _ _ _ _ _ _)
      | (with_reducible exact spec_l15Place.mono _ _ _ _ _ _ _ _)
      | (with_reducible exact LeO.refl _)
      | (with_reducible exact LeO.none _)
      | (with_reducible refine LeO.ite ?_ ?_)
      | (with_reducible refine LeO.bind ?_ (fun _ => ?_))
      | exact LeO.none _
      | refine LeO.ite ?_ ?_
      | refine LeO.bind ?_ (fun _ => ?_)
theorem spec_l15At.mono : ∀ a0 a1 a2 a3 k, LeO (spec_l15At.f k a0 a1 a2 a3) (spec_l15At.f (k + 1) a0 a1 a2 a3) := by
  intro a0 a1 a2 a3 k
  obtain ⟨ih0, ih1⟩ := spec_l15At.mono_l k
  unfold spec_l15At.f
  repeat' first
      | (with_reducible exact ih0 _ _ _ _ _ _)
      | (with_reducible exact ih1 _ _ _ _ _ _ _)
      | (with_reducible exact spec_l15Place.mono _ _ _ _ _ _ _ _)
      | (with_reducible exact LeO.refl _)
      | (with_reducible exact LeO.none _)
      | (with_reducible refine LeO.ite ?_ ?_)
      | (with_reducible refine LeO.bind ?_ (fun _ => ?_))
      | exact LeO.none _
      | refine LeO.ite ?_ ?_
      | refine LeO.bind ?_ (fun _ => ?_)
set_option maxHeartbeats 8000000 in
set_option maxRecDepth 100000 in
theorem spec_l15At.calls (k : Nat) (A0 : Option Addr) (c0 : Nat) (l0 : List (S43)) (a1 : Int) (a2 : Int) (a3 : Int) (r : List (S41)) (w : World) (hr0 : Kd.C k43 w A0 l0.length l0) (hc0 : l0.length ≤ c0) (h : spec_l15At.f k l0 a1 a2 a3 = some r) :
    Calls Try.prog 66 #[.slice A0 l0.length c0, .int .i64 a1, .int .i64 a2, .int .i64 a3] w fun e w' => ∃ v0_ : Value, e = .returned (v0_) ∧ Kd.R k41 41 w' w.heap.size (fun _ => True) v0_ r ∧ Below w.heap.size w w' := by
  have hu41 := Try.underlying41
  have hu43 := Try.underlying43
  have HR0 := Ad_.mk hr0
  have HC0 := Ad_.mk hc0
  clear hr0 hc0
  have HB := Ad_.mk (Below.refl w.heap.size w)
  have H := h
  unfold spec_l15At.f at H
  clear h
  obtain ⟨y499, hy499⟩ : ∃ y_ : List (S41), y_ = (([] : List (S41))) := ⟨_, rfl⟩
  replace H : ((spec_l15Place.f k l0 a1 a2 a3 (-1) 0 0).bind fun t502 => (spec_l15At.l0 k l0 a1 a2 a3 y499 t502)) = some r := by first | (rw [hy499]; with_reducible exact H) | (have H2_ := (Option.bind_some _ _).symm.trans H; rw [hy499]; with_reducible exact H2_) | (have H2_ := (Option.bind_some _ _).symm.trans H; with_reducible exact H2_) | with_reducible exact H | (rw [hy499]; exact H) | exact H
  have Ny499 := Ad_.mk hy499
  clear hy499
  replace H := Option.bind_eq_some_iff.mp H
  obtain ⟨t502, A50, H⟩ := H
  try dsimp only at H
  have A5 := Ad_.mk A50
  clear A50
  have H' := Ad_.mk H
  clear H
  go_enter Try.func66, Try.ntmps66
  go_wp2_with (first | ((with_reducible refine gD_ (N := 11) rfl ?_); refine Kd.R_lit k41 _ 41 ?hg (N := 11) ?hd (xs := ([] : List (S41))) (inner := []) (ok := fun _ => True) (okp := fun _ => True) ?hr ?hp (fun _ hk => hk) trivial (Below.refl _ _) (Nat.le_refl _) (by simp) ?_; (case hd => rfl); (case hg => rfl); (case hr => first | (go_simp; done) | (go_simp; rfl)); (case hp => exact (Reps.none _ _)); intro v500 w6 ho7 hb hg_ hnew_; clear hg_ hnew_; (first | rw [← Ny499.out] at ho7 | (simp only [Int.reduceToNat] at ho7; rw [← Ny499.out] at ho7)); have n0_ := Ad_.mk (Kd.R_lower ho7 (bZ_ (by repeat (with_reducible first | exact HB.out | apply bA_ | apply bN_ | apply b1_)))); have n1_ := Ad_.mk (bP_ (by repeat (with_reducible first | exact HB.out | apply bA_ | apply bN_ | apply b1_)) hb); clear HB; have HO501 := n0_; have HB := n1_; clear n0_ n1_; clear hb ho7) | ((with_reducible refine gC_ (f := 61) rfl ?_); refine gM_ (some 18) rfl rfl Try.func61 (by kernel_rfl) rfl #[.slice A0 l0.length c0, .agg #[.int .i64 a1, .int .i64 a2, .int .i64 a3, .int .i64 (-1), .int .i64 0, .int .i64 0]] rfl ?_; (with_reducible refine (spec_l15Place.calls k _ _ l0 a1 a2 a3 (-1) 0 0 t502 _ ?side1 ?side2 A5.out).mono ?_); (case side1 => repeat (first | exact (Kd.C_below HR0.out HB.out) | (with_reducible refine Kd.C_alloc ?_ _) | (with_reducible refine Kd.C_drewN ?_ _) | (with_reducible refine Kd.C_drew ?_))); (case side2 => exact HC0.out); rintro e w8 ⟨rfl, hb⟩; refine ⟨_, rfl, ?_⟩; have n0_ := Ad_.mk (Kd.R_below (by (with_reducible repeat (first | apply Kd.R_alloc | apply Kd.R_drewN | apply Kd.R_drew)); exact HO501.out) hb); have n1_ := Ad_.mk (bP_ (by repeat (with_reducible first | exact HB.out | apply bA_ | apply bN_ | apply b1_)) hb); clear HO501; clear HB; have HO501 := n0_; have HB := n1_; clear n0_ n1_; (try clear hb); (try clear hb2); (try clear hk); (try clear hi)))
  go_loopg [9, 10] k (fun kq v9 v10 w' => ∃ (x9_1 : List (S41)) (x10_1 : Int), v10 = .int .i64 x10_1 ∧ Ad_ (spec_l15At.l0 kq l0 a1 a2 a3 x9_1 x10_1 = some r) ∧ Ad_ (kq ≤ k) ∧ Ad_ (Kd.R k41 41 w' w.heap.size (fun _ => True) v9 x9_1) ∧ Ad_ (Below w.heap.size w w'))
  case atStart => exact ⟨(y499), (t502), fs_, H', ⟨Nat.le_refl _⟩, ⟨by (with_reducible repeat (first | apply Kd.R_alloc | apply Kd.R_drewN | apply Kd.R_drew)); exact HO501.out⟩, ⟨by repeat (with_reducible first | exact HB.out | apply bA_ | apply bN_ | apply b1_)⟩⟩
  case round =>
    clear H'
    try clear p2
    obtain ⟨x9_1, x10_1, rfl, HA, HK1, HO_9, HB⟩ := hrel
    cases gk with
    | zero => exact absurd HA.out (by simp [spec_l15At.l0])
    | succ k1 =>
      have H := HA.out
      clear HA
      simp only [spec_l15At.l0] at H
      have HC9 := Ad_.mk H
      clear H
      go_upto_region 3 with (fail)
      go_cut [49] (fun v49 wc => ∃ (kq : Nat) (x49_8 : Bool), v49 = .bool x49_8 ∧ Ad_ (spec_l15At.j1 kq l0 a1 a2 a3 x9_1 x10_1 x49_8 = some r) ∧ Ad_ (kq ≤ k1) ∧ Ad_ (Kd.R k41 41 wc w.heap.size (fun _ => True) u9 x9_1) ∧ Ad_ (Below w.heap.size w wc))
      case first =>
        have H := HC9.out
        clear HC9
        by_cases c10 : x10_1 < (l0.length : Int)
        rotate_left
        ·
         rw [if_neg c10] at H
         have c10b0 := decide_eq_false c10
         clear c10
         (first | rw [c10b0] | (simp only [i64_w, i32_w]; rw [c10b0]) | skip)
         have H' := Ad_.mk H
         clear H
         go_wp2
         go_meet
         case rel => exact ⟨_, (false), fs_, H', ⟨by have := HK1.out; first | omega | exact Nat.le_refl _⟩, ⟨by (with_reducible repeat (first | apply Kd.R_alloc | apply Kd.R_drewN | apply Kd.R_drew)); exact HO_9.out⟩, ⟨by repeat (with_reducible first | exact HB.out | apply bA_ | apply bN_ | apply b1_)⟩⟩
        rw [if_pos c10] at H
        have c10b0 := decide_eq_true c10
        clear c10
        (first | rw [c10b0] | (simp only [i64_w, i32_w]; rw [c10b0]) | skip)
        by_cases c11 : 0 ≤ x10_1
        rotate_left
        ·
         rw [if_neg c11] at H
         exact absurd H (by simp)
        rw [if_pos c11] at H
        have c11b0 := decide_eq_true c11
        clear c11
        by_cases c12 : ((rd_T43 l0 x10_1).f0) = a1
        rotate_left
        ·
         rw [if_neg c12] at H
         have c12b0 : (((rd_T43 l0 x10_1).f0) == a1) = false := beq_eq_false_iff_ne.mpr c12
         have c12b1 : (((rd_T43 l0 x10_1).f0) != a1) = true := bne_iff_ne.mpr c12
         have H' := Ad_.mk H
         clear H
         have p503 : 0 ≤ (x10_1 : Int) := od_
         have q503 : x10_1 < (l0.length : Int) := od_
         obtain ⟨ad503, e503, hx503_0, hx503_1, hx503_2, hx503_3, hx503_4, hx503_5⟩ := at_T43 HR0.out x10_1 p503 q503
         cases e503
         replace hx503_0 := pB_ HB.out hx503_0
         replace hx503_1 := pB_ HB.out hx503_1
         replace hx503_2 := pB_ HB.out hx503_2
         replace hx503_3 := pB_ HB.out hx503_3
         replace hx503_4 := pB_ HB.out hx503_4
         replace hx503_5 := pB_ HB.out hx503_5
         replace p503 := eq_true p503
         replace q503 := eq_true q503
         go_wp2
         go_meet
         case rel => exact ⟨_, (false), fs_, H', ⟨by have := HK1.out; first | omega | exact Nat.le_refl _⟩, ⟨by (with_reducible repeat (first | apply Kd.R_alloc | apply Kd.R_drewN | apply Kd.R_drew)); exact HO_9.out⟩, ⟨by repeat (with_reducible first | exact HB.out | apply bA_ | apply bN_ | apply b1_)⟩⟩
        rw [if_pos c12] at H
        have c12b0 : (((rd_T43 l0 x10_1).f0) == a1) = true := beq_iff_eq.mpr c12
        have c12b1 : (((rd_T43 l0 x10_1).f0) != a1) = false := bne_eq_false_iff_eq.mpr c12
        clear c12
        by_cases c13 : ((rd_T43 l0 x10_1).f1) = a2
        rotate_left
        ·
         rw [if_neg c13] at H
         have c13b0 : (((rd_T43 l0 x10_1).f1) == a2) = false := beq_eq_false_iff_ne.mpr c13
         have c13b1 : (((rd_T43 l0 x10_1).f1) != a2) = true := bne_iff_ne.mpr c13
         have H' := Ad_.mk H
         clear H
         have p503 : 0 ≤ (x10_1 : Int) := od_
         have q503 : x10_1 < (l0.length : Int) := od_
         obtain ⟨ad503, e503, hx503_0, hx503_1, hx503_2, hx503_3, hx503_4, hx503_5⟩ := at_T43 HR0.out x10_1 p503 q503
         cases e503
         replace hx503_0 := pB_ HB.out hx503_0
         replace hx503_1 := pB_ HB.out hx503_1
         replace hx503_2 := pB_ HB.out hx503_2
         replace hx503_3 := pB_ HB.out hx503_3
         replace hx503_4 := pB_ HB.out hx503_4
         replace hx503_5 := pB_ HB.out hx503_5
         replace p503 := eq_true p503
         replace q503 := eq_true q503
         have p504 : 0 ≤ (x10_1 : Int) := od_
         have q504 : x10_1 < (l0.length : Int) := od_
         obtain ⟨ad504, e504, hx504_0, hx504_1, hx504_2, hx504_3, hx504_4, hx504_5⟩ := at_T43 HR0.out x10_1 p504 q504
         obtain rfl : ad503 = ad504 := (by injection e504)
         replace hx504_0 := pB_ HB.out hx504_0
         replace hx504_1 := pB_ HB.out hx504_1
         replace hx504_2 := pB_ HB.out hx504_2
         replace hx504_3 := pB_ HB.out hx504_3
         replace hx504_4 := pB_ HB.out hx504_4
         replace hx504_5 := pB_ HB.out hx504_5
         replace p504 := eq_true p504
         replace q504 := eq_true q504
         go_wp2
         go_meet
         case rel => exact ⟨_, (false), fs_, H', ⟨by have := HK1.out; first | omega | exact Nat.le_refl _⟩, ⟨by (with_reducible repeat (first | apply Kd.R_alloc | apply Kd.R_drewN | apply Kd.R_drew)); exact HO_9.out⟩, ⟨by repeat (with_reducible first | exact HB.out | apply bA_ | apply bN_ | apply b1_)⟩⟩
        rw [if_pos c13] at H
        have c13b0 : (((rd_T43 l0 x10_1).f1) == a2) = true := beq_iff_eq.mpr c13
        have c13b1 : (((rd_T43 l0 x10_1).f1) != a2) = false := bne_eq_false_iff_eq.mpr c13
        clear c13
        have H' := Ad_.mk H
        clear H
        have p503 : 0 ≤ (x10_1 : Int) := od_
        have q503 : x10_1 < (l0.length : Int) := od_
        obtain ⟨ad503, e503, hx503_0, hx503_1, hx503_2, hx503_3, hx503_4, hx503_5⟩ := at_T43 HR0.out x10_1 p503 q503
        cases e503
        replace hx503_0 := pB_ HB.out hx503_0
        replace hx503_1 := pB_ HB.out hx503_1
        replace hx503_2 := pB_ HB.out hx503_2
        replace hx503_3 := pB_ HB.out hx503_3
        replace hx503_4 := pB_ HB.out hx503_4
        replace hx503_5 := pB_ HB.out hx503_5
        replace p503 := eq_true p503
        replace q503 := eq_true q503
        have p504 : 0 ≤ (x10_1 : Int) := od_
        have q504 : x10_1 < (l0.length : Int) := od_
        obtain ⟨ad504, e504, hx504_0, hx504_1, hx504_2, hx504_3, hx504_4, hx504_5⟩ := at_T43 HR0.out x10_1 p504 q504
        obtain rfl : ad503 = ad504 := (by injection e504)
        replace hx504_0 := pB_ HB.out hx504_0
        replace hx504_1 := pB_ HB.out hx504_1
        replace hx504_2 := pB_ HB.out hx504_2
        replace hx504_3 := pB_ HB.out hx504_3
        replace hx504_4 := pB_ HB.out hx504_4
        replace hx504_5 := pB_ HB.out hx504_5
        replace p504 := eq_true p504
        replace q504 := eq_true q504
        have p505 : 0 ≤ (x10_1 : Int) := od_
        have q505 : x10_1 < (l0.length : Int) := od_
        obtain ⟨ad505, e505, hx505_0, hx505_1, hx505_2, hx505_3, hx505_4, hx505_5⟩ := at_T43 HR0.out x10_1 p505 q505
        obtain rfl : ad503 = ad505 := (by injection e505)
        replace hx505_0 := pB_ HB.out hx505_0
        replace hx505_1 := pB_ HB.out hx505_1
        replace hx505_2 := pB_ HB.out hx505_2
        replace hx505_3 := pB_ HB.out hx505_3
        replace hx505_4 := pB_ HB.out hx505_4
        replace hx505_5 := pB_ HB.out hx505_5
        replace p505 := eq_true p505
        replace q505 := eq_true q505
        go_wp2
        go_meet
        case rel => exact ⟨_, ((((rd_T43 l0 x10_1).f2) == a3)), fs_, H', ⟨by have := HK1.out; first | omega | exact Nat.le_refl _⟩, ⟨by (with_reducible repeat (first | apply Kd.R_alloc | apply Kd.R_drewN | apply Kd.R_drew)); exact HO_9.out⟩, ⟨by repeat (with_reducible first | exact HB.out | apply bA_ | apply bN_ | apply b1_)⟩⟩
      case rest =>
        clear HC9
        try clear p2
        try clear p5
        try clear q5
        try clear hx5
        try clear c10b0
        try clear c11b0
        try clear c12b0 c12b1
        try clear c13b0 c13b1
        try clear hx503_0
        try clear hx503_1
        try clear hx503_2
        try clear hx503_3
        try clear hx503_4
        try clear hx503_5
        try clear hx504_0
        try clear hx504_1
        try clear hx504_2
        try clear hx504_3
        try clear hx504_4
        try clear hx504_5
        try clear hx505_0
        try clear hx505_1
        try clear hx505_2
        try clear hx505_3
        try clear hx505_4
        try clear hx505_5
        try clear p2
        try clear p503
        try clear p504
        try clear p505
        try clear q503
        try clear q504
        try clear q505
        obtain ⟨kq, x49_8, rfl, HA, HJ8, HO_9, HB⟩ := hcut
        cases kq with
        | zero => exact absurd HA.out (by simp [spec_l15At.j1])
        | succ kj8 =>
          have H := HA.out
          clear HA
          simp only [spec_l15At.j1] at H
          by_cases c14 : x49_8 = true
          rotate_left
          ·
           replace c14 := Bool.eq_false_iff.mpr c14
           subst c14
           have H1 : (some x9_1) = some r := by rw [if_neg (show ¬ (false = true) by decide)] at H; exact H
           clear H
           have H := H1
           clear H1
           obtain rfl := Option.some.inj H
           go_wp2
           go_ret
           exact ⟨_, by first | rfl | (simp [errW_none, errW_some] <;> rfl) | (simp [*, errW_none, errW_some] <;> rfl), by (with_reducible repeat (first | apply Kd.R_alloc | apply Kd.R_drewN | apply Kd.R_drew)); exact HO_9.out, by repeat (with_reducible first | exact HB.out | apply bA_ | apply bN_ | apply b1_)⟩
          subst c14
          have H1 := H
          rw [if_pos rfl] at H1
          clear H
          have H := H1
          clear H1
          by_cases c15 : 0 ≤ x10_1
          rotate_left
          ·
           rw [if_neg c15] at H
           exact absurd H (by simp)
          rw [if_pos c15] at H
          have c15b0 := decide_eq_true c15
          clear c15
          by_cases c16 : x10_1 < (l0.length : Int)
          rotate_left
          ·
           rw [if_neg c16] at H
           exact absurd H (by simp)
          rw [if_pos c16] at H
          have c16b0 := decide_eq_true c16
          clear c16
          by_cases c17 : ((rd_T43 l0 x10_1).f3.f0) ≥ 0
          rotate_left
          ·
           rw [if_neg c17] at H
           have c17b0 := decide_eq_false c17
           clear c17
           have H' := Ad_.mk H
           clear H
           have p506 : 0 ≤ (x10_1 : Int) := od_
           have q506 : x10_1 < (l0.length : Int) := od_
           obtain ⟨ad506, e506, hx506_0, hx506_1, hx506_2, hx506_3, hx506_4, hx506_5⟩ := at_T43 HR0.out x10_1 p506 q506
           cases e506
           replace hx506_0 := pB_ HB.out hx506_0
           replace hx506_1 := pB_ HB.out hx506_1
           replace hx506_2 := pB_ HB.out hx506_2
           replace hx506_3 := pB_ HB.out hx506_3
           replace hx506_4 := pB_ HB.out hx506_4
           replace hx506_5 := pB_ HB.out hx506_5
           replace p506 := eq_true p506
           replace q506 := eq_true q506
           go_wp2
           go_roundg kj8
           case measure => have := HK1.out; have := HJ8.out; omega
           case rel => exact ⟨(x9_1), (wrap64 (x10_1 + 1)), fs_, H', ⟨by have := HK1.out; have := HJ8.out; omega⟩, ⟨by (with_reducible repeat (first | apply Kd.R_alloc | apply Kd.R_drewN | apply Kd.R_drew)); exact HO_9.out⟩, ⟨by repeat (with_reducible first | exact HB.out | apply bA_ | apply bN_ | apply b1_)⟩⟩
          rw [if_pos c17] at H
          have c17b0 := decide_eq_true c17
          clear c17
          by_cases c18 : x9_1.length < 5864062014805
          rotate_left
          ·
           rw [if_neg c18] at H
           exact absurd H (by simp)
          rw [if_pos c18] at H
          have LMc18 := Ad_.mk c18
          clear c18
          obtain ⟨y508, hy508⟩ : ∃ y_ : List (S41), y_ = (x9_1 ++ [(⟨(rd_T43 l0 x10_1).f3.f0, (rd_T43 l0 x10_1).f3.f1, (rd_T43 l0 x10_1).f3.f2⟩ : S41)]) := ⟨_, rfl⟩
          replace H : (spec_l15At.l0 kj8 l0 a1 a2 a3 y508 (wrap64 (x10_1 + 1))) = some r := by first | (rw [hy508]; with_reducible exact H) | (have H2_ := (Option.bind_some _ _).symm.trans H; rw [hy508]; with_reducible exact H2_) | (have H2_ := (Option.bind_some _ _).symm.trans H; with_reducible exact H2_) | with_reducible exact H | (rw [hy508]; exact H) | exact H
          have Ny508 := Ad_.mk hy508
          clear hy508
          have H' := Ad_.mk H
          clear H
          have p506 : 0 ≤ (x10_1 : Int) := od_
          have q506 : x10_1 < (l0.length : Int) := od_
          obtain ⟨ad506, e506, hx506_0, hx506_1, hx506_2, hx506_3, hx506_4, hx506_5⟩ := at_T43 HR0.out x10_1 p506 q506
          cases e506
          replace hx506_0 := pB_ HB.out hx506_0
          replace hx506_1 := pB_ HB.out hx506_1
          replace hx506_2 := pB_ HB.out hx506_2
          replace hx506_3 := pB_ HB.out hx506_3
          replace hx506_4 := pB_ HB.out hx506_4
          replace hx506_5 := pB_ HB.out hx506_5
          replace p506 := eq_true p506
          replace q506 := eq_true q506
          have p507 : 0 ≤ (x10_1 : Int) := od_
          have q507 : x10_1 < (l0.length : Int) := od_
          obtain ⟨ad507, e507, hx507_0, hx507_1, hx507_2, hx507_3, hx507_4, hx507_5⟩ := at_T43 HR0.out x10_1 p507 q507
          obtain rfl : ad506 = ad507 := (by injection e507)
          replace hx507_0 := pB_ HB.out hx507_0
          replace hx507_1 := pB_ HB.out hx507_1
          replace hx507_2 := pB_ HB.out hx507_2
          replace hx507_3 := pB_ HB.out hx507_3
          replace hx507_4 := pB_ HB.out hx507_4
          replace hx507_5 := pB_ HB.out hx507_5
          replace p507 := eq_true p507
          replace q507 := eq_true q507
          go_wp2_with (first | ((with_reducible refine gB_ (b := .append) (xs := #[.tmp 57, .tmp 63]) rfl ?_); at_builtin; refine Kd.R_append k41 (w0 := w) w.heap.size rfl (.tmp 57) (.tmp 63) 63 41 (.agg #[(.int .i64 0), (.int .i64 0), (.int .i64 0)]) 24 rfl Try.underlying63 info41 rfl (by decide) (by omega) u9 x9_1 (⟨(rd_T43 l0 x10_1).f3.f0, (rd_T43 l0 x10_1).f3.f1, (rd_T43 l0 x10_1).f3.f2⟩ : S41) [.int .i64 ((rd_T43 l0 x10_1).f3.f0), .int .i64 ((rd_T43 l0 x10_1).f3.f1), .int .i64 ((rd_T43 l0 x10_1).f3.f2)] (fun _ => True) (fun _ => False) rfl rfl ?aP (fun _ hk => hk.elim) ?aF ?aO ?aB ?aS ?aL ?_; (case aP => exact k41_mkM _ _ _ (⟨(rd_T43 l0 x10_1).f3.f0, (rd_T43 l0 x10_1).f3.f1, (rd_T43 l0 x10_1).f3.f2⟩ : S41)); (case aB => exact (by repeat (with_reducible first | exact HB.out | apply bA_ | apply bN_ | apply b1_))); (case aF => exact (fun _ _ => trivial)); (case aO => exact (by (with_reducible repeat (first | apply Kd.R_alloc | apply Kd.R_drewN | apply Kd.R_drew)); exact HO_9.out)); (case aS => exact (bZ_ (by repeat (with_reducible first | exact HB.out | apply bA_ | apply bN_ | apply b1_)))); (case aL => have := LMc18.out; omega); intro v509 w19 ho hb hg hat; rw [← Ny508.out] at ho; have n0_ := Ad_.mk (hb); have n1_ := Ad_.mk (ho); clear HB; clear HO_9; have HB := n0_; have HO510 := n1_; clear n0_ n1_; clear ho hb hg hat))
          go_roundg kj8
          case measure => have := HK1.out; have := HJ8.out; omega
          case rel => exact ⟨(y508), (wrap64 (x10_1 + 1)), fs_, H', ⟨by have := HK1.out; have := HJ8.out; omega⟩, ⟨by (with_reducible repeat (first | apply Kd.R_alloc | apply Kd.R_drewN | apply Kd.R_drew)); exact HO510.out⟩, ⟨by repeat (with_reducible first | exact HB.out | apply bA_ | apply bN_ | apply b1_)⟩⟩
end Go.Proofs.Ytdjomoogldkpfaa.PAll
end
section
namespace Go.Proofs.Ytdjomoogldkpfaa.PAll
open Go.RowKit Go.Proofs.YtdjomoogldkpfaaW.PrintWords Go.Proofs.YtdjomoogldkpfaaW.PrintLast Go.Proofs.YtdjomoogldkpfaaW.PrintMore
attribute [local go_sem] max2_int min2_int max_two min_two max_three min_three max_four min_four
set_option linter.unusedVariables false
set_option linter.unusedSimpArgs false
def spec_AbsAt.f (k : Nat) (l0 : List (S43)) (a1 : Int) (a2 : Int) (a3 : Int) : Option ((List (S41))) := (spec_FactsOk.f k l0).bind fun t511 => (if t511 = true then ((spec_l15At.f k l0 a1 a2 a3).bind fun t512 => (some t512)) else (some (([] : List (S41)))))
theorem spec_AbsAt.mono : ∀ a0 a1 a2 a3 k, LeO (spec_AbsAt.f k a0 a1 a2 a3) (spec_AbsAt.f (k + 1) a0 a1 a2 a3) := by
  intro a0 a1 a2 a3 k
  unfold spec_AbsAt.f
  repeat' first
      | (with_reducible exact spec_FactsOk.mono _ _)
      | (with_reducible exact spec_l15At.mono _ _ _ _ _)
      | (with_reducible exact LeO.refl _)
      | (with_reducible exact LeO.none _)
      | (with_reducible refine LeO.ite ?_ ?_)
      | (with_reducible refine LeO.bind ?_ (fun _ => ?_))
      | exact LeO.none _
      | refine LeO.ite ?_ ?_
      | refine LeO.bind ?_ (fun _ => ?_)
set_option maxHeartbeats 8000000 in
set_option maxRecDepth 100000 in
theorem spec_AbsAt.calls (k : Nat) (A0 : Option Addr) (c0 : Nat) (l0 : List (S43)) (a1 : Int) (a2 : Int) (a3 : Int) (r : List (S41)) (w : World) (hr0 : Kd.C k43 w A0 l0.length l0) (hc0 : l0.length ≤ c0) (h : spec_AbsAt.f k l0 a1 a2 a3 = some r) :
    Calls Try.prog 44 #[.slice A0 l0.length c0, .int .i64 a1, .int .i64 a2, .int .i64 a3] w fun e w' => ∃ v0_ : Value, e = .returned (v0_) ∧ Kd.R k41 41 w' w.heap.size (fun _ => True) v0_ r ∧ Below w.heap.size w w' := by
  have HR0 := Ad_.mk hr0
  have HC0 := Ad_.mk hc0
  clear hr0 hc0
  have HB := Ad_.mk (Below.refl w.heap.size w)
  have H := h
  unfold spec_AbsAt.f at H
  clear h
  replace H := Option.bind_eq_some_iff.mp H
  obtain ⟨t511, A50, H⟩ := H
  try dsimp only at H
  have A5 := Ad_.mk A50
  clear A50
  by_cases c6 : t511 = true
  ·
   subst c6
   have H1 := H
   rw [if_pos rfl] at H1
   clear H
   have H := H1
   clear H1
   replace H := Option.bind_eq_some_iff.mp H
   obtain ⟨t512, A70, H⟩ := H
   replace H : (some t512) = some r := H
   have A7 := Ad_.mk A70
   clear A70
   obtain rfl := Option.some.inj H
   go_enter Try.func44, Try.ntmps44
   go_wp2_with (first | ((with_reducible refine gC_ (f := 37) rfl ?_); refine gM_ (some 10) rfl rfl Try.func37 (by kernel_rfl) rfl #[.slice A0 l0.length c0] rfl ?_; (with_reducible refine (spec_FactsOk.calls k _ _ l0 true _ ?side1 ?side2 A5.out).mono ?_); (case side1 => repeat (first | exact HR0.out | (with_reducible refine Kd.C_alloc ?_ _) | (with_reducible refine Kd.C_drewN ?_ _) | (with_reducible refine Kd.C_drew ?_))); (case side2 => exact HC0.out); rintro e w8 ⟨rfl, hb⟩; refine ⟨_, rfl, ?_⟩; have n0_ := Ad_.mk (bP_ (by repeat (with_reducible first | exact HB.out | apply bA_ | apply bN_ | apply b1_)) hb); clear HB; have HB := n0_; clear n0_; (try clear hb); (try clear hb2); (try clear hk); (try clear hi)) | ((with_reducible refine gC_ (f := 66) rfl ?_); refine gM_ (some 17) rfl rfl Try.func66 (by kernel_rfl) rfl #[.slice A0 l0.length c0, .int .i64 a1, .int .i64 a2, .int .i64 a3] rfl ?_; (with_reducible refine (spec_l15At.calls k _ _ l0 a1 a2 a3 t512 _ ?side1 ?side2 A7.out).mono ?_); (case side1 => repeat (first | exact (Kd.C_below HR0.out HB.out) | (with_reducible refine Kd.C_alloc ?_ _) | (with_reducible refine Kd.C_drewN ?_ _) | (with_reducible refine Kd.C_drew ?_))); (case side2 => exact HC0.out); rintro e w9 ⟨v513, rfl, ho0, hb⟩; refine ⟨_, rfl, ?_⟩; have n0_ := Ad_.mk (Kd.R_lower ho0 (bZ_ (by repeat (with_reducible first | exact HB.out | apply bA_ | apply bN_ | apply b1_)))); have n1_ := Ad_.mk (bP_ (by repeat (with_reducible first | exact HB.out | apply bA_ | apply bN_ | apply b1_)) hb); clear HB; have HO514 := n0_; have HB := n1_; clear n0_ n1_; (try clear hb); (try clear hb2); (try clear hk); (try clear hi); (try clear ho0)))
   go_ret
   exact ⟨_, by first | rfl | (simp [errW_none, errW_some] <;> rfl) | (simp [*, errW_none, errW_some] <;> rfl), by (with_reducible repeat (first | apply Kd.R_alloc | apply Kd.R_drewN | apply Kd.R_drew)); exact HO514.out, by repeat (with_reducible first | exact HB.out | apply bA_ | apply bN_ | apply b1_)⟩
  replace c6 := Bool.eq_false_iff.mpr c6
  subst c6
  have H1 : (some (([] : List (S41)))) = some r := by rw [if_neg (show ¬ (false = true) by decide)] at H; exact H
  clear H
  have H := H1
  clear H1
  obtain ⟨y515, hy515⟩ : ∃ y_ : List (S41), y_ = (([] : List (S41))) := ⟨_, rfl⟩
  replace H : (some y515) = some r := by first | (rw [hy515]; with_reducible exact H) | (have H2_ := (Option.bind_some _ _).symm.trans H; rw [hy515]; with_reducible exact H2_) | (have H2_ := (Option.bind_some _ _).symm.trans H; with_reducible exact H2_) | with_reducible exact H | (rw [hy515]; exact H) | exact H
  have Ny515 := Ad_.mk hy515
  clear hy515
  obtain rfl := Option.some.inj H
  go_enter Try.func44, Try.ntmps44
  go_wp2_with (first | ((with_reducible refine gC_ (f := 37) rfl ?_); refine gM_ (some 10) rfl rfl Try.func37 (by kernel_rfl) rfl #[.slice A0 l0.length c0] rfl ?_; (with_reducible refine (spec_FactsOk.calls k _ _ l0 false _ ?side1 ?side2 A5.out).mono ?_); (case side1 => repeat (first | exact HR0.out | (with_reducible refine Kd.C_alloc ?_ _) | (with_reducible refine Kd.C_drewN ?_ _) | (with_reducible refine Kd.C_drew ?_))); (case side2 => exact HC0.out); rintro e w10 ⟨rfl, hb⟩; refine ⟨_, rfl, ?_⟩; have n0_ := Ad_.mk (bP_ (by repeat (with_reducible first | exact HB.out | apply bA_ | apply bN_ | apply b1_)) hb); clear HB; have HB := n0_; clear n0_; (try clear hb); (try clear hb2); (try clear hk); (try clear hi)) | ((with_reducible refine gD_ (N := 12) rfl ?_); refine Kd.R_lit k41 _ 41 ?hg (N := 12) ?hd (xs := ([] : List (S41))) (inner := []) (ok := fun _ => True) (okp := fun _ => True) ?hr ?hp (fun _ hk => hk) trivial (Below.refl _ _) (Nat.le_refl _) (by simp) ?_; (case hd => rfl); (case hg => rfl); (case hr => first | (go_simp; done) | (go_simp; rfl)); (case hp => exact (Reps.none _ _)); intro v516 w11 ho12 hb hg_ hnew_; clear hg_ hnew_; (first | rw [← Ny515.out] at ho12 | (simp only [Int.reduceToNat] at ho12; rw [← Ny515.out] at ho12)); have n0_ := Ad_.mk (Kd.R_lower ho12 (bZ_ (by repeat (with_reducible first | exact HB.out | apply bA_ | apply bN_ | apply b1_)))); have n1_ := Ad_.mk (bP_ (by repeat (with_reducible first | exact HB.out | apply bA_ | apply bN_ | apply b1_)) hb); clear HB; have HO517 := n0_; have HB := n1_; clear n0_ n1_; clear hb ho12))
  go_ret
  exact ⟨_, by first | rfl | (simp [errW_none, errW_some] <;> rfl) | (simp [*, errW_none, errW_some] <;> rfl), by (with_reducible repeat (first | apply Kd.R_alloc | apply Kd.R_drewN | apply Kd.R_drew)); exact HO517.out, by repeat (with_reducible first | exact HB.out | apply bA_ | apply bN_ | apply b1_)⟩
end Go.Proofs.Ytdjomoogldkpfaa.PAll
end
section
namespace Go.Proofs.Ytdjomoogldkpfaa.PAll
open Go.RowKit Go.Proofs.YtdjomoogldkpfaaW.PrintWords Go.Proofs.YtdjomoogldkpfaaW.PrintLast Go.Proofs.YtdjomoogldkpfaaW.PrintMore
attribute [local go_sem] max2_int min2_int max_two min_two max_three min_three max_four min_four
set_option linter.unusedVariables false
set_option linter.unusedSimpArgs false
def laws_heldFactS.l0 : Nat → List (S43) → Int → Int → Option (Int)
  | 0, _, _, _ => none
  | k + 1, x0, x1, x5 => if x5 < (x0.length : Int) then (if 0 ≤ x5 then (if ((rd_T43 x0 x5).f0) = x1 then (if ((rd_T43 x0 x5).f1) = (wrap64 (x1 + 1)) then (if ((rd_T43 x0 x5).f2) = (wrap64 ((wrap64 (x1 + 1)) + 1)) then (if ((rd_T43 x0 x5).f3.f0) = (wrap64 ((wrap64 ((wrap64 (x1 + 1)) + 1)) + 1)) then (if ((rd_T43 x0 x5).f3.f1) = (wrap64 ((wrap64 ((wrap64 ((wrap64 (x1 + 1)) + 1)) + 1)) + 1)) then (if ((rd_T43 x0 x5).f3.f2) = (wrap64 ((wrap64 ((wrap64 ((wrap64 ((wrap64 (x1 + 1)) + 1)) + 1)) + 1)) + 1)) then (laws_heldFactS.l0 k x0 (wrap64 ((wrap64 ((wrap64 ((wrap64 ((wrap64 ((wrap64 (x1 + 1)) + 1)) + 1)) + 1)) + 1)) + 1)) (wrap64 (x5 + 1))) else (some (-1))) else (some (-1))) else (some (-1))) else (some (-1))) else (some (-1))) else (some (-1))) else (none)) else (some x1)
def laws_heldFactS.f (k : Nat) (l0 : List (S43)) (a1 : Int) : Option (Int) := laws_heldFactS.l0 k l0 a1 0
theorem laws_heldFactS.mono_l : ∀ k, (∀ y0 y1 y2, LeO (laws_heldFactS.l0 k y0 y1 y2) (laws_heldFactS.l0 (k + 1) y0 y1 y2))
  | 0 => fun _ _ _ r h => by simp [laws_heldFactS.l0] at h
  | k + 1 => by
    have ih0 := laws_heldFactS.mono_l k
    · intro y0 y1 y2
      unfold laws_heldFactS.l0
      repeat' first
      | (with_reducible exact ih0 _ _ _)
      | (with_reducible exact LeO.refl _)
      | (with_reducible exact LeO.none _)
      | (with_reducible refine LeO.ite ?_ ?_)
      | (with_reducible refine LeO.bind ?_ (fun _ => ?_))
      | exact LeO.none _
      | refine LeO.ite ?_ ?_
      | refine LeO.bind ?_ (fun _ => ?_)
theorem laws_heldFactS.mono : ∀ a0 a1 k, LeO (laws_heldFactS.f k a0 a1) (laws_heldFactS.f (k + 1) a0 a1) := by
  intro a0 a1 k
  have ih0 := laws_heldFactS.mono_l k
  unfold laws_heldFactS.f
  repeat' first
      | (with_reducible exact ih0 _ _ _)
      | (with_reducible exact LeO.refl _)
      | (with_reducible exact LeO.none _)
      | (with_reducible refine LeO.ite ?_ ?_)
      | (with_reducible refine LeO.bind ?_ (fun _ => ?_))
      | exact LeO.none _
      | refine LeO.ite ?_ ?_
      | refine LeO.bind ?_ (fun _ => ?_)
set_option maxHeartbeats 8000000 in
set_option maxRecDepth 100000 in
theorem laws_heldFactS.calls (k : Nat) (A0 : Option Addr) (c0 : Nat) (l0 : List (S43)) (a1 : Int) (r : Int) (w : World) (hr0 : Kd.C k43 w A0 l0.length l0) (hc0 : l0.length ≤ c0) (h : laws_heldFactS.f k l0 a1 = some r) :
    Calls Try.prog 50 #[.slice A0 l0.length c0, .int .i64 a1] w fun e w' => e = .returned (.int .i64 r) ∧ Drawn0 w w' := by
  have HR0 := Ad_.mk hr0
  have HC0 := Ad_.mk hc0
  clear hr0 hc0
  have H : (laws_heldFactS.l0 k l0 a1 0) = some r := h
  clear h
  have H' := Ad_.mk H
  clear H
  go_enter Try.func50, Try.ntmps50
  go_wp2
  go_loopg [1, 5] k (fun kq v1 v5 w' => ∃ (x1_1 : Int) (x5_1 : Int), v1 = .int .i64 x1_1 ∧ v5 = .int .i64 x5_1 ∧ Ad_ (laws_heldFactS.l0 kq l0 x1_1 x5_1 = some r) ∧ Ad_ (kq ≤ k) ∧ Drawn0 w w')
  case atStart => exact ⟨(a1), (0), fs_, fs_, H', ⟨Nat.le_refl _⟩, by repeat (first | exact Drawn0.refl _ | apply Drawn0.step)⟩
  case round =>
    clear H'
    try clear p2
    obtain ⟨x1_1, x5_1, rfl, rfl, HA, HK1, ⟨m1, rfl⟩⟩ := hrel
    cases gk with
    | zero => exact absurd HA.out (by simp [laws_heldFactS.l0])
    | succ k1 =>
      have H := HA.out
      clear HA
      simp only [laws_heldFactS.l0] at H
      by_cases c3 : x5_1 < (l0.length : Int)
      rotate_left
      ·
       rw [if_neg c3] at H
       have c3b0 := decide_eq_false c3
       clear c3
       obtain rfl := Option.some.inj H
       go_wp2
       go_ret
       exact ⟨by first | rfl | (simp; done) | (simp [*]; done), by repeat (first | exact Drawn0.refl _ | apply Drawn0.step)⟩
      rw [if_pos c3] at H
      have c3b0 := decide_eq_true c3
      clear c3
      by_cases c4 : 0 ≤ x5_1
      rotate_left
      ·
       rw [if_neg c4] at H
       exact absurd H (by simp)
      rw [if_pos c4] at H
      have c4b0 := decide_eq_true c4
      clear c4
      by_cases c5 : ((rd_T43 l0 x5_1).f0) = x1_1
      rotate_left
      ·
       rw [if_neg c5] at H
       have c5b0 : (((rd_T43 l0 x5_1).f0) == x1_1) = false := beq_eq_false_iff_ne.mpr c5
       have c5b1 : (((rd_T43 l0 x5_1).f0) != x1_1) = true := bne_iff_ne.mpr c5
       obtain rfl := Option.some.inj H
       have p588 : 0 ≤ (x5_1 : Int) := od_
       have q588 : x5_1 < (l0.length : Int) := od_
       obtain ⟨ad588, e588, hx588_0, hx588_1, hx588_2, hx588_3, hx588_4, hx588_5⟩ := at_T43 HR0.out x5_1 p588 q588
       cases e588
       replace p588 := eq_true p588
       replace q588 := eq_true q588
       go_wp2
       go_ret
       exact ⟨by first | rfl | (simp; done) | (simp [*]; done), by repeat (first | exact Drawn0.refl _ | apply Drawn0.step)⟩
      rw [if_pos c5] at H
      have c5b0 : (((rd_T43 l0 x5_1).f0) == x1_1) = true := beq_iff_eq.mpr c5
      have c5b1 : (((rd_T43 l0 x5_1).f0) != x1_1) = false := bne_eq_false_iff_eq.mpr c5
      clear c5
      by_cases c6 : ((rd_T43 l0 x5_1).f1) = (wrap64 (x1_1 + 1))
      rotate_left
      ·
       rw [if_neg c6] at H
       have c6b0 : (((rd_T43 l0 x5_1).f1) == (wrap64 (x1_1 + 1))) = false := beq_eq_false_iff_ne.mpr c6
       have c6b1 : (((rd_T43 l0 x5_1).f1) != (wrap64 (x1_1 + 1))) = true := bne_iff_ne.mpr c6
       obtain rfl := Option.some.inj H
       have p588 : 0 ≤ (x5_1 : Int) := od_
       have q588 : x5_1 < (l0.length : Int) := od_
       obtain ⟨ad588, e588, hx588_0, hx588_1, hx588_2, hx588_3, hx588_4, hx588_5⟩ := at_T43 HR0.out x5_1 p588 q588
       cases e588
       replace p588 := eq_true p588
       replace q588 := eq_true q588
       have p589 : 0 ≤ (x5_1 : Int) := od_
       have q589 : x5_1 < (l0.length : Int) := od_
       obtain ⟨ad589, e589, hx589_0, hx589_1, hx589_2, hx589_3, hx589_4, hx589_5⟩ := at_T43 HR0.out x5_1 p589 q589
       obtain rfl : ad588 = ad589 := (by injection e589)
       replace p589 := eq_true p589
       replace q589 := eq_true q589
       go_wp2
       go_ret
       exact ⟨by first | rfl | (simp; done) | (simp [*]; done), by repeat (first | exact Drawn0.refl _ | apply Drawn0.step)⟩
      rw [if_pos c6] at H
      have c6b0 : (((rd_T43 l0 x5_1).f1) == (wrap64 (x1_1 + 1))) = true := beq_iff_eq.mpr c6
      have c6b1 : (((rd_T43 l0 x5_1).f1) != (wrap64 (x1_1 + 1))) = false := bne_eq_false_iff_eq.mpr c6
      clear c6
      by_cases c7 : ((rd_T43 l0 x5_1).f2) = (wrap64 ((wrap64 (x1_1 + 1)) + 1))
      rotate_left
      ·
       rw [if_neg c7] at H
       have c7b0 : (((rd_T43 l0 x5_1).f2) == (wrap64 ((wrap64 (x1_1 + 1)) + 1))) = false := beq_eq_false_iff_ne.mpr c7
       have c7b1 : (((rd_T43 l0 x5_1).f2) != (wrap64 ((wrap64 (x1_1 + 1)) + 1))) = true := bne_iff_ne.mpr c7
       obtain rfl := Option.some.inj H
       have p588 : 0 ≤ (x5_1 : Int) := od_
       have q588 : x5_1 < (l0.length : Int) := od_
       obtain ⟨ad588, e588, hx588_0, hx588_1, hx588_2, hx588_3, hx588_4, hx588_5⟩ := at_T43 HR0.out x5_1 p588 q588
       cases e588
       replace p588 := eq_true p588
       replace q588 := eq_true q588
       have p589 : 0 ≤ (x5_1 : Int) := od_
       have q589 : x5_1 < (l0.length : Int) := od_
       obtain ⟨ad589, e589, hx589_0, hx589_1, hx589_2, hx589_3, hx589_4, hx589_5⟩ := at_T43 HR0.out x5_1 p589 q589
       obtain rfl : ad588 = ad589 := (by injection e589)
       replace p589 := eq_true p589
       replace q589 := eq_true q589
       have p590 : 0 ≤ (x5_1 : Int) := od_
       have q590 : x5_1 < (l0.length : Int) := od_
       obtain ⟨ad590, e590, hx590_0, hx590_1, hx590_2, hx590_3, hx590_4, hx590_5⟩ := at_T43 HR0.out x5_1 p590 q590
       obtain rfl : ad588 = ad590 := (by injection e590)
       replace p590 := eq_true p590
       replace q590 := eq_true q590
       go_wp2
       go_ret
       exact ⟨by first | rfl | (simp; done) | (simp [*]; done), by repeat (first | exact Drawn0.refl _ | apply Drawn0.step)⟩
      rw [if_pos c7] at H
      have c7b0 : (((rd_T43 l0 x5_1).f2) == (wrap64 ((wrap64 (x1_1 + 1)) + 1))) = true := beq_iff_eq.mpr c7
      have c7b1 : (((rd_T43 l0 x5_1).f2) != (wrap64 ((wrap64 (x1_1 + 1)) + 1))) = false := bne_eq_false_iff_eq.mpr c7
      clear c7
      by_cases c8 : ((rd_T43 l0 x5_1).f3.f0) = (wrap64 ((wrap64 ((wrap64 (x1_1 + 1)) + 1)) + 1))
      rotate_left
      ·
       rw [if_neg c8] at H
       have c8b0 : (((rd_T43 l0 x5_1).f3.f0) == (wrap64 ((wrap64 ((wrap64 (x1_1 + 1)) + 1)) + 1))) = false := beq_eq_false_iff_ne.mpr c8
       have c8b1 : (((rd_T43 l0 x5_1).f3.f0) != (wrap64 ((wrap64 ((wrap64 (x1_1 + 1)) + 1)) + 1))) = true := bne_iff_ne.mpr c8
       obtain rfl := Option.some.inj H
       have p588 : 0 ≤ (x5_1 : Int) := od_
       have q588 : x5_1 < (l0.length : Int) := od_
       obtain ⟨ad588, e588, hx588_0, hx588_1, hx588_2, hx588_3, hx588_4, hx588_5⟩ := at_T43 HR0.out x5_1 p588 q588
       cases e588
       replace p588 := eq_true p588
       replace q588 := eq_true q588
       have p589 : 0 ≤ (x5_1 : Int) := od_
       have q589 : x5_1 < (l0.length : Int) := od_
       obtain ⟨ad589, e589, hx589_0, hx589_1, hx589_2, hx589_3, hx589_4, hx589_5⟩ := at_T43 HR0.out x5_1 p589 q589
       obtain rfl : ad588 = ad589 := (by injection e589)
       replace p589 := eq_true p589
       replace q589 := eq_true q589
       have p590 : 0 ≤ (x5_1 : Int) := od_
       have q590 : x5_1 < (l0.length : Int) := od_
       obtain ⟨ad590, e590, hx590_0, hx590_1, hx590_2, hx590_3, hx590_4, hx590_5⟩ := at_T43 HR0.out x5_1 p590 q590
       obtain rfl : ad588 = ad590 := (by injection e590)
       replace p590 := eq_true p590
       replace q590 := eq_true q590
       have p591 : 0 ≤ (x5_1 : Int) := od_
       have q591 : x5_1 < (l0.length : Int) := od_
       obtain ⟨ad591, e591, hx591_0, hx591_1, hx591_2, hx591_3, hx591_4, hx591_5⟩ := at_T43 HR0.out x5_1 p591 q591
       obtain rfl : ad588 = ad591 := (by injection e591)
       replace p591 := eq_true p591
       replace q591 := eq_true q591
       go_wp2
       go_ret
       exact ⟨by first | rfl | (simp; done) | (simp [*]; done), by repeat (first | exact Drawn0.refl _ | apply Drawn0.step)⟩
      rw [if_pos c8] at H
      have c8b0 : (((rd_T43 l0 x5_1).f3.f0) == (wrap64 ((wrap64 ((wrap64 (x1_1 + 1)) + 1)) + 1))) = true := beq_iff_eq.mpr c8
      have c8b1 : (((rd_T43 l0 x5_1).f3.f0) != (wrap64 ((wrap64 ((wrap64 (x1_1 + 1)) + 1)) + 1))) = false := bne_eq_false_iff_eq.mpr c8
      clear c8
      by_cases c9 : ((rd_T43 l0 x5_1).f3.f1) = (wrap64 ((wrap64 ((wrap64 ((wrap64 (x1_1 + 1)) + 1)) + 1)) + 1))
      rotate_left
      ·
       rw [if_neg c9] at H
       have c9b0 : (((rd_T43 l0 x5_1).f3.f1) == (wrap64 ((wrap64 ((wrap64 ((wrap64 (x1_1 + 1)) + 1)) + 1)) + 1))) = false := beq_eq_false_iff_ne.mpr c9
       have c9b1 : (((rd_T43 l0 x5_1).f3.f1) != (wrap64 ((wrap64 ((wrap64 ((wrap64 (x1_1 + 1)) + 1)) + 1)) + 1))) = true := bne_iff_ne.mpr c9
       obtain rfl := Option.some.inj H
       have p588 : 0 ≤ (x5_1 : Int) := od_
       have q588 : x5_1 < (l0.length : Int) := od_
       obtain ⟨ad588, e588, hx588_0, hx588_1, hx588_2, hx588_3, hx588_4, hx588_5⟩ := at_T43 HR0.out x5_1 p588 q588
       cases e588
       replace p588 := eq_true p588
       replace q588 := eq_true q588
       have p589 : 0 ≤ (x5_1 : Int) := od_
       have q589 : x5_1 < (l0.length : Int) := od_
       obtain ⟨ad589, e589, hx589_0, hx589_1, hx589_2, hx589_3, hx589_4, hx589_5⟩ := at_T43 HR0.out x5_1 p589 q589
       obtain rfl : ad588 = ad589 := (by injection e589)
       replace p589 := eq_true p589
       replace q589 := eq_true q589
       have p590 : 0 ≤ (x5_1 : Int) := od_
       have q590 : x5_1 < (l0.length : Int) := od_
       obtain ⟨ad590, e590, hx590_0, hx590_1, hx590_2, hx590_3, hx590_4, hx590_5⟩ := at_T43 HR0.out x5_1 p590 q590
       obtain rfl : ad588 = ad590 := (by injection e590)
       replace p590 := eq_true p590
       replace q590 := eq_true q590
       have p591 : 0 ≤ (x5_1 : Int) := od_
       have q591 : x5_1 < (l0.length : Int) := od_
       obtain ⟨ad591, e591, hx591_0, hx591_1, hx591_2, hx591_3, hx591_4, hx591_5⟩ := at_T43 HR0.out x5_1 p591 q591
       obtain rfl : ad588 = ad591 := (by injection e591)
       replace p591 := eq_true p591
       replace q591 := eq_true q591
       have p592 : 0 ≤ (x5_1 : Int) := od_
       have q592 : x5_1 < (l0.length : Int) := od_
       obtain ⟨ad592, e592, hx592_0, hx592_1, hx592_2, hx592_3, hx592_4, hx592_5⟩ := at_T43 HR0.out x5_1 p592 q592
       obtain rfl : ad588 = ad592 := (by injection e592)
       replace p592 := eq_true p592
       replace q592 := eq_true q592
       go_wp2
       go_ret
       exact ⟨by first | rfl | (simp; done) | (simp [*]; done), by repeat (first | exact Drawn0.refl _ | apply Drawn0.step)⟩
      rw [if_pos c9] at H
      have c9b0 : (((rd_T43 l0 x5_1).f3.f1) == (wrap64 ((wrap64 ((wrap64 ((wrap64 (x1_1 + 1)) + 1)) + 1)) + 1))) = true := beq_iff_eq.mpr c9
      have c9b1 : (((rd_T43 l0 x5_1).f3.f1) != (wrap64 ((wrap64 ((wrap64 ((wrap64 (x1_1 + 1)) + 1)) + 1)) + 1))) = false := bne_eq_false_iff_eq.mpr c9
      clear c9
      by_cases c10 : ((rd_T43 l0 x5_1).f3.f2) = (wrap64 ((wrap64 ((wrap64 ((wrap64 ((wrap64 (x1_1 + 1)) + 1)) + 1)) + 1)) + 1))
      rotate_left
      ·
       rw [if_neg c10] at H
       have c10b0 : (((rd_T43 l0 x5_1).f3.f2) == (wrap64 ((wrap64 ((wrap64 ((wrap64 ((wrap64 (x1_1 + 1)) + 1)) + 1)) + 1)) + 1))) = false := beq_eq_false_iff_ne.mpr c10
       have c10b1 : (((rd_T43 l0 x5_1).f3.f2) != (wrap64 ((wrap64 ((wrap64 ((wrap64 ((wrap64 (x1_1 + 1)) + 1)) + 1)) + 1)) + 1))) = true := bne_iff_ne.mpr c10
       obtain rfl := Option.some.inj H
       have p588 : 0 ≤ (x5_1 : Int) := od_
       have q588 : x5_1 < (l0.length : Int) := od_
       obtain ⟨ad588, e588, hx588_0, hx588_1, hx588_2, hx588_3, hx588_4, hx588_5⟩ := at_T43 HR0.out x5_1 p588 q588
       cases e588
       replace p588 := eq_true p588
       replace q588 := eq_true q588
       have p589 : 0 ≤ (x5_1 : Int) := od_
       have q589 : x5_1 < (l0.length : Int) := od_
       obtain ⟨ad589, e589, hx589_0, hx589_1, hx589_2, hx589_3, hx589_4, hx589_5⟩ := at_T43 HR0.out x5_1 p589 q589
       obtain rfl : ad588 = ad589 := (by injection e589)
       replace p589 := eq_true p589
       replace q589 := eq_true q589
       have p590 : 0 ≤ (x5_1 : Int) := od_
       have q590 : x5_1 < (l0.length : Int) := od_
       obtain ⟨ad590, e590, hx590_0, hx590_1, hx590_2, hx590_3, hx590_4, hx590_5⟩ := at_T43 HR0.out x5_1 p590 q590
       obtain rfl : ad588 = ad590 := (by injection e590)
       replace p590 := eq_true p590
       replace q590 := eq_true q590
       have p591 : 0 ≤ (x5_1 : Int) := od_
       have q591 : x5_1 < (l0.length : Int) := od_
       obtain ⟨ad591, e591, hx591_0, hx591_1, hx591_2, hx591_3, hx591_4, hx591_5⟩ := at_T43 HR0.out x5_1 p591 q591
       obtain rfl : ad588 = ad591 := (by injection e591)
       replace p591 := eq_true p591
       replace q591 := eq_true q591
       have p592 : 0 ≤ (x5_1 : Int) := od_
       have q592 : x5_1 < (l0.length : Int) := od_
       obtain ⟨ad592, e592, hx592_0, hx592_1, hx592_2, hx592_3, hx592_4, hx592_5⟩ := at_T43 HR0.out x5_1 p592 q592
       obtain rfl : ad588 = ad592 := (by injection e592)
       replace p592 := eq_true p592
       replace q592 := eq_true q592
       have p593 : 0 ≤ (x5_1 : Int) := od_
       have q593 : x5_1 < (l0.length : Int) := od_
       obtain ⟨ad593, e593, hx593_0, hx593_1, hx593_2, hx593_3, hx593_4, hx593_5⟩ := at_T43 HR0.out x5_1 p593 q593
       obtain rfl : ad588 = ad593 := (by injection e593)
       replace p593 := eq_true p593
       replace q593 := eq_true q593
       go_wp2
       go_ret
       exact ⟨by first | rfl | (simp; done) | (simp [*]; done), by repeat (first | exact Drawn0.refl _ | apply Drawn0.step)⟩
      rw [if_pos c10] at H
      have c10b0 : (((rd_T43 l0 x5_1).f3.f2) == (wrap64 ((wrap64 ((wrap64 ((wrap64 ((wrap64 (x1_1 + 1)) + 1)) + 1)) + 1)) + 1))) = true := beq_iff_eq.mpr c10
      have c10b1 : (((rd_T43 l0 x5_1).f3.f2) != (wrap64 ((wrap64 ((wrap64 ((wrap64 ((wrap64 (x1_1 + 1)) + 1)) + 1)) + 1)) + 1))) = false := bne_eq_false_iff_eq.mpr c10
      clear c10
      have H' := Ad_.mk H
      clear H
      have p588 : 0 ≤ (x5_1 : Int) := od_
      have q588 : x5_1 < (l0.length : Int) := od_
      obtain ⟨ad588, e588, hx588_0, hx588_1, hx588_2, hx588_3, hx588_4, hx588_5⟩ := at_T43 HR0.out x5_1 p588 q588
      cases e588
      replace p588 := eq_true p588
      replace q588 := eq_true q588
      have p589 : 0 ≤ (x5_1 : Int) := od_
      have q589 : x5_1 < (l0.length : Int) := od_
      obtain ⟨ad589, e589, hx589_0, hx589_1, hx589_2, hx589_3, hx589_4, hx589_5⟩ := at_T43 HR0.out x5_1 p589 q589
      obtain rfl : ad588 = ad589 := (by injection e589)
      replace p589 := eq_true p589
      replace q589 := eq_true q589
      have p590 : 0 ≤ (x5_1 : Int) := od_
      have q590 : x5_1 < (l0.length : Int) := od_
      obtain ⟨ad590, e590, hx590_0, hx590_1, hx590_2, hx590_3, hx590_4, hx590_5⟩ := at_T43 HR0.out x5_1 p590 q590
      obtain rfl : ad588 = ad590 := (by injection e590)
      replace p590 := eq_true p590
      replace q590 := eq_true q590
      have p591 : 0 ≤ (x5_1 : Int) := od_
      have q591 : x5_1 < (l0.length : Int) := od_
      obtain ⟨ad591, e591, hx591_0, hx591_1, hx591_2, hx591_3, hx591_4, hx591_5⟩ := at_T43 HR0.out x5_1 p591 q591
      obtain rfl : ad588 = ad591 := (by injection e591)
      replace p591 := eq_true p591
      replace q591 := eq_true q591
      have p592 : 0 ≤ (x5_1 : Int) := od_
      have q592 : x5_1 < (l0.length : Int) := od_
      obtain ⟨ad592, e592, hx592_0, hx592_1, hx592_2, hx592_3, hx592_4, hx592_5⟩ := at_T43 HR0.out x5_1 p592 q592
      obtain rfl : ad588 = ad592 := (by injection e592)
      replace p592 := eq_true p592
      replace q592 := eq_true q592
      have p593 : 0 ≤ (x5_1 : Int) := od_
      have q593 : x5_1 < (l0.length : Int) := od_
      obtain ⟨ad593, e593, hx593_0, hx593_1, hx593_2, hx593_3, hx593_4, hx593_5⟩ := at_T43 HR0.out x5_1 p593 q593
      obtain rfl : ad588 = ad593 := (by injection e593)
      replace p593 := eq_true p593
      replace q593 := eq_true q593
      go_wp2
      go_roundg k1
      case measure => have := HK1.out; omega
      case rel => exact ⟨(wrap64 ((wrap64 ((wrap64 ((wrap64 ((wrap64 ((wrap64 (x1_1 + 1)) + 1)) + 1)) + 1)) + 1)) + 1)), (wrap64 (x5_1 + 1)), fs_, fs_, H', ⟨by have := HK1.out; omega⟩, by repeat (first | exact Drawn0.refl _ | apply Drawn0.step)⟩
def spec_ValueOf.f (k : Nat) (l0 : List (S43)) (a1 : Int) (a2 : Int) : Option ((List (S41))) := (spec_AbsAt.f k l0 0 a1 a2).bind fun t617 => (some t617)
theorem spec_ValueOf.mono : ∀ a0 a1 a2 k, LeO (spec_ValueOf.f k a0 a1 a2) (spec_ValueOf.f (k + 1) a0 a1 a2) := by
  intro a0 a1 a2 k
  unfold spec_ValueOf.f
  repeat' first
      | (with_reducible exact spec_AbsAt.mono _ _ _ _ _)
      | (with_reducible exact LeO.refl _)
      | (with_reducible exact LeO.none _)
      | (with_reducible refine LeO.ite ?_ ?_)
      | (with_reducible refine LeO.bind ?_ (fun _ => ?_))
      | exact LeO.none _
      | refine LeO.ite ?_ ?_
      | refine LeO.bind ?_ (fun _ => ?_)
set_option maxHeartbeats 8000000 in
set_option maxRecDepth 100000 in
theorem spec_ValueOf.calls (k : Nat) (A0 : Option Addr) (c0 : Nat) (l0 : List (S43)) (a1 : Int) (a2 : Int) (r : List (S41)) (w : World) (hr0 : Kd.C k43 w A0 l0.length l0) (hc0 : l0.length ≤ c0) (h : spec_ValueOf.f k l0 a1 a2 = some r) :
    Calls Try.prog 51 #[.slice A0 l0.length c0, .int .i64 a1, .int .i64 a2] w fun e w' => ∃ v0_ : Value, e = .returned (v0_) ∧ Kd.R k41 41 w' w.heap.size (fun _ => True) v0_ r ∧ Below w.heap.size w w' := by
  have HR0 := Ad_.mk hr0
  have HC0 := Ad_.mk hc0
  clear hr0 hc0
  have HB := Ad_.mk (Below.refl w.heap.size w)
  have H := h
  unfold spec_ValueOf.f at H
  clear h
  replace H := Option.bind_eq_some_iff.mp H
  obtain ⟨t617, A40, H⟩ := H
  replace H : (some t617) = some r := H
  have A4 := Ad_.mk A40
  clear A40
  obtain rfl := Option.some.inj H
  go_enter Try.func51, Try.ntmps51
  go_wp2_with (first | ((with_reducible refine gC_ (f := 44) rfl ?_); refine gM_ (some 10) rfl rfl Try.func44 (by kernel_rfl) rfl #[.slice A0 l0.length c0, .int .i64 0, .int .i64 a1, .int .i64 a2] rfl ?_; (with_reducible refine (spec_AbsAt.calls k _ _ l0 0 a1 a2 t617 _ ?side1 ?side2 A4.out).mono ?_); (case side1 => repeat (first | exact HR0.out | (with_reducible refine Kd.C_alloc ?_ _) | (with_reducible refine Kd.C_drewN ?_ _) | (with_reducible refine Kd.C_drew ?_))); (case side2 => exact HC0.out); rintro e w5 ⟨v618, rfl, ho0, hb⟩; refine ⟨_, rfl, ?_⟩; have n0_ := Ad_.mk (Kd.R_lower ho0 (bZ_ (by repeat (with_reducible first | exact HB.out | apply bA_ | apply bN_ | apply b1_)))); have n1_ := Ad_.mk (bP_ (by repeat (with_reducible first | exact HB.out | apply bA_ | apply bN_ | apply b1_)) hb); clear HB; have HO619 := n0_; have HB := n1_; clear n0_ n1_; (try clear hb); (try clear hb2); (try clear hk); (try clear hi); (try clear ho0)))
  go_ret
  exact ⟨_, by first | rfl | (simp [errW_none, errW_some] <;> rfl) | (simp [*, errW_none, errW_some] <;> rfl), by (with_reducible repeat (first | apply Kd.R_alloc | apply Kd.R_drewN | apply Kd.R_drew)); exact HO619.out, by repeat (with_reducible first | exact HB.out | apply bA_ | apply bN_ | apply b1_)⟩
def impl_ValueOf.f (k : Nat) (l0 : List (S43)) (a1 : Int) (a2 : Int) : Option ((List (S41))) := (impl_AbsAt.f k l0 0 a1 a2).bind fun t620 => (some t620)
theorem impl_ValueOf.mono : ∀ a0 a1 a2 k, LeO (impl_ValueOf.f k a0 a1 a2) (impl_ValueOf.f (k + 1) a0 a1 a2) := by
  intro a0 a1 a2 k
  unfold impl_ValueOf.f
  repeat' first
      | (with_reducible exact impl_AbsAt.mono _ _ _ _ _)
      | (with_reducible exact LeO.refl _)
      | (with_reducible exact LeO.none _)
      | (with_reducible refine LeO.ite ?_ ?_)
      | (with_reducible refine LeO.bind ?_ (fun _ => ?_))
      | exact LeO.none _
      | refine LeO.ite ?_ ?_
      | refine LeO.bind ?_ (fun _ => ?_)
set_option maxHeartbeats 8000000 in
set_option maxRecDepth 100000 in
theorem impl_ValueOf.calls (k : Nat) (A0 : Option Addr) (c0 : Nat) (l0 : List (S43)) (a1 : Int) (a2 : Int) (r : List (S41)) (w : World) (hr0 : Kd.C k43 w A0 l0.length l0) (hc0 : l0.length ≤ c0) (h : impl_ValueOf.f k l0 a1 a2 = some r) :
    Calls Try.prog 52 #[.slice A0 l0.length c0, .int .i64 a1, .int .i64 a2] w fun e w' => ∃ v0_ : Value, e = .returned (v0_) ∧ Kd.R k41 41 w' w.heap.size (fun _ => True) v0_ r ∧ Below w.heap.size w w' := by
  have HR0 := Ad_.mk hr0
  have HC0 := Ad_.mk hc0
  clear hr0 hc0
  have HB := Ad_.mk (Below.refl w.heap.size w)
  have H := h
  unfold impl_ValueOf.f at H
  clear h
  replace H := Option.bind_eq_some_iff.mp H
  obtain ⟨t620, A40, H⟩ := H
  replace H : (some t620) = some r := H
  have A4 := Ad_.mk A40
  clear A40
  obtain rfl := Option.some.inj H
  go_enter Try.func52, Try.ntmps52
  go_wp2_with (first | ((with_reducible refine gC_ (f := 43) rfl ?_); refine gM_ (some 10) rfl rfl Try.func43 (by kernel_rfl) rfl #[.slice A0 l0.length c0, .int .i64 0, .int .i64 a1, .int .i64 a2] rfl ?_; (with_reducible refine (impl_AbsAt.calls k _ _ l0 0 a1 a2 t620 _ ?side1 ?side2 A4.out).mono ?_); (case side1 => repeat (first | exact HR0.out | (with_reducible refine Kd.C_alloc ?_ _) | (with_reducible refine Kd.C_drewN ?_ _) | (with_reducible refine Kd.C_drew ?_))); (case side2 => exact HC0.out); rintro e w5 ⟨v621, rfl, ho0, hb⟩; refine ⟨_, rfl, ?_⟩; have n0_ := Ad_.mk (Kd.R_lower ho0 (bZ_ (by repeat (with_reducible first | exact HB.out | apply bA_ | apply bN_ | apply b1_)))); have n1_ := Ad_.mk (bP_ (by repeat (with_reducible first | exact HB.out | apply bA_ | apply bN_ | apply b1_)) hb); clear HB; have HO622 := n0_; have HB := n1_; clear n0_ n1_; (try clear hb); (try clear hb2); (try clear hk); (try clear hi); (try clear ho0)))
  go_ret
  exact ⟨_, by first | rfl | (simp [errW_none, errW_some] <;> rfl) | (simp [*, errW_none, errW_some] <;> rfl), by (with_reducible repeat (first | apply Kd.R_alloc | apply Kd.R_drewN | apply Kd.R_drew)); exact HO622.out, by repeat (with_reducible first | exact HB.out | apply bA_ | apply bN_ | apply b1_)⟩
end Go.Proofs.Ytdjomoogldkpfaa.PAll
end
section
namespace Go.Proofs.Ytdjomoogldkpfaa.PAll
open Go.RowKit Go.Proofs.YtdjomoogldkpfaaW.PrintWords Go.Proofs.YtdjomoogldkpfaaW.PrintLast
theorem cut_to_max {P : Program} (t e : TypeId) (kh km : IntKind) {i : TypeInfo} (ht : P.underlying t = some (.slice e)) (hi : P.info? e = some i) (A : Option Addr) (n c : Nat) (j m : Int) (h0 : 0 ≤ j) (hjm : j ≤ m) (hm : m ≤ n) (hc : n ≤ c) :
    ∀ W : World, (Instr.slice t (.slice A n c) none (some (.int kh j)) (some (.int km m))).run P W = .ok (.slice A j.toNat m.toNat) W := by
  intro W
  have hel : P.elem t = e := by simp [Program.elem, ht]
  have hu : P.underlying t = some (.slice (P.elem t)) := by rw [hel]; exact ht
  have ha : (A.map fun x => x.add 0) = A := by cases A <;> simp [Addr.add]
  rw [run_slice_hm W t A n c hu kh km j m h0 hjm (by omega), hel]
  simp [sizeOf, typeInfo, hi, sliced, Result.andThen, ha]
def cutv : Value → Value
  | .slice A n _ => .slice A n n
  | v => v
theorem run_append_full {P : Program} (w : World) (base : Nat) (t ty e : TypeId) (i : TypeInfo) (z : Value) (size bytes : Nat) (ht : P.underlying t = some (.slice e)) (hi : P.info? e = some i) (hz : i.zero = some z)
    (hsize : i.size = size) (hby : i.bytes = bytes) (hzs : z.cells.size = size)
    (v : Value) (n : Nat) (xs : List Value) (hown : w.ownsRow base e size v n xs)
    (a : Addr) (m c : Nat) (news : List Value) (hl : news.length = m * size) (hnews : ∀ j u, news[j]? = some u → w.cell? (a.add j) = some u) (hm : 0 < m)
    (h63 : n + m ≤ maxLen) (hbytes : (n + m) * bytes ≤ 140737488355328) (hbase : base ≤ w.heap.size) :
    ∃ v' w', (Builtin.append_ #[t, t] ty #[cutv v, .slice (some a) m c]).run P w = .ok v' w' ∧ w'.ownsRow base e size v' (n + m) (xs ++ news) ∧ w.grownBy w' v.ownBlock ∧ v'.ownBlock = some w.heap.size := by
  subst hsize
  subst hby
  have hsmall : n + m ≤ 9223372036854775807 := by simp only [maxLen] at h63; omega
  have hlen : (xs ++ news).length = (n + m) * i.size := by rw [List.length_append, hown.1, hl, Nat.add_mul]
  have grown : ∀ (old : Nat), old < n + m → ∀ (row : Option Nat),
      (w.drew.alloc (.cells (xs.toArray ++ news.toArray ++ Builtin.zeroCells z.cells (grownCap w (n + m) old e - (n + m))) e)).ownsRow base e i.size
        (.slice (some ⟨w.heap.size, 0, none⟩) (n + m) (grownCap w (n + m) old e)) (n + m) (xs ++ news) ∧
      w.grownBy (w.drew.alloc (.cells (xs.toArray ++ news.toArray ++ Builtin.zeroCells z.cells (grownCap w (n + m) old e - (n + m))) e)) row := by
    intro old ho row
    have hge := grownCap_ge w (n + m) old e
    have hcm : grownCap w (n + m) old e ≤ maxLen := grownCap_le_maxLen w (n + m) old e h63
    refine ⟨⟨hlen, .inr ⟨w.heap.size, _, _, rfl, hbase, heap_alloc_new w.drew _, hge, hcm, ?_, ?_⟩⟩, ⟨rfl, rfl, rfl, by simp, fun k hk _ => heap_alloc_old w.drew _ hk⟩⟩
    · simp only [Array.size_append, List.size_toArray, size_zeroCells, hzs, hown.1, hl, ← Nat.add_mul]
      congr 1
      omega
    · simp only [Array.toList_append, List.append_assoc]
      rw [← List.append_assoc, ← hlen]
      exact List.take_left
  rcases hown.2 with ⟨rfl, rfl⟩ | ⟨g, cap, cur, rfl, hbg, hg, hnc, hcm, hcs, htake⟩
  · have hx : xs = [] := List.eq_nil_of_length_eq_zero (by simpa using hown.1)
    subst hx
    have hr := run_append_nil (P := P) w t ty e i z ht hi hz a m c news hl hnews (by omega) (by omega) (by have hb := hbytes; simp only [Nat.zero_add] at hb; omega)
    have hgr := grown 0 (by omega) (Value.ownBlock (.slice none 0 0))
    simp only [Nat.zero_add, List.nil_append, Array.empty_append] at hgr ⊢
    exact ⟨_, _, hr, hgr.1, hgr.2, rfl⟩
  · have holds : ∀ j u, xs[j]? = some u → w.cell? ((⟨g, 0, none⟩ : Addr).add j) = some u := hown.cells (g := g) rfl
    have hr := run_append_grow (P := P) w t ty e i z ht hi hz ⟨g, 0, none⟩ n n xs hown.1 holds a m c news hl hnews (by omega) (by omega) (growslice_fits (by omega) hbytes)
    have hgr := grown n (by omega) (Value.ownBlock (.slice (some ⟨g, 0, none⟩) n cap))
    exact ⟨_, _, hr, hgr.1, hgr.2, rfl⟩
section
variable {P : Program} {ops : Array Oper} {o : Oper} {a : Act} {Q : Exit → Act → World → Prop} {Kc : Act → World → Prop} {α : Type}
theorem R_append_full_step (d : Kd α) {w0 W : World} (base : Nat) (hw : Region.wanted o (yielded ops a.tmps) = true) (s x : Operand) (t e : TypeId) (z : Value) (bytes : Nat)
    (ho : o.op = .call { callee := .builtin .append, args := #[s, x], argTypes := #[t, t] })
    (ht : P.underlying t = some (.slice e)) (hinfo : (P.info? e).map (fun i => (i.zero, i.size, i.bytes)) = some (some z, d.sz, bytes)) (hz : z.cells.size = d.sz) (_hs0 : 0 < d.sz) (hb0 : 0 < bytes)
    (v : Value) (xs : List α) (p : α) (cs : List Value) (ok okp : Nat → Prop) (hs : a.eval s = cutv v) (hx : a.eval x = .slice (some ⟨W.heap.size, 0, none⟩) 1 1) (hp : d.M W base okp p cs) (hokp : ∀ k, okp k → ok k ∧ some k ≠ v.ownBlock) (hfresh : ∀ k, W.heap.size ≤ k → ok k)
    (HO : d.R e W base ok v xs) (HB : Below base w0 W) (hbase : base ≤ W.heap.size) (hl : (xs.length + 1) * bytes ≤ 140737488355328)
    (h : ∀ v1 w1, d.R e w1 base ok v1 (xs ++ [p]) → Below base w0 w1 → W.grownBy w1 v.ownBlock → (v1.ownBlock = v.ownBlock ∨ ∃ b, v1.ownBlock = some b ∧ W.heap.size ≤ b) → Kc (a.put o.dst v1) w1) :
    if Region.wanted o (yielded ops a.tmps) = true then Oper.wp P o a (W.alloc (.cells cs.toArray e)) Kc Q else Kc (a.put o.dst undef) (W.alloc (.cells cs.toArray e)) := by
  obtain ⟨h0, inner, hown, hr⟩ := HO
  have hys := d.K_len (d.K_of_M hp)
  obtain ⟨i0, hi, hzz⟩ := Option.map_eq_some_iff.1 hinfo
  simp only [Prod.mk.injEq] at hzz
  obtain ⟨hz0, hz1, hz2⟩ := hzz
  have hlen : xs.length + 1 ≤ 140737488355328 := Nat.le_trans (Nat.le_mul_of_pos_right _ hb0) hl
  rw [if_pos hw]
  obtain ⟨v1, w1, hrun, hown1, hg, hat⟩ := run_append_full (P := P) (W.alloc (.cells cs.toArray e)) base t o.type e i0 z d.sz bytes ht hi hz0 hz1 hz2 hz v xs.length inner (hown.alloc _) ⟨W.heap.size, 0, none⟩ 1 1 cs (by rw [hys]; simp)
    (by simpa using World.news_of_block (cs := cs.toArray) (t := e) (fr := (0, 0)) (heap_alloc_new W (.cells cs.toArray e))) (by omega) (by simp only [maxLen]; omega) hl (by simp; omega)
  unfold Oper.wp execOp
  simp only [ho, resolve, invoke, builtin, Sem.run_bind, Sem.run_pure, Result.andThen_ok, List.map_toArray, List.map_cons, List.map_nil, hs, hx, hrun]
  have hg1 : W.grownBy w1 v.ownBlock := World.grownBy.trans (World.grownBy_alloc W _ _) hg
  have hat1 : v1.ownBlock = v.ownBlock ∨ ∃ b, v1.ownBlock = some b ∧ W.heap.size ≤ b := .inr ⟨_, hat, by simp⟩
  exact h v1 w1 (Kd.R_appended h0 hr hp hokp hfresh hown1 hg1 hat1) ((HB.alloc hbase _).grown hg (by simp; omega) (own_base hown)) hg1 hat1
end
end Go.Proofs.Ytdjomoogldkpfaa.PAll
end
