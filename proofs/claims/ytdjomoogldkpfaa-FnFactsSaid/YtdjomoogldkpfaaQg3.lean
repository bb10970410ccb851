/- For each function of the Go program that is named here: its Lean function, and that Go comes to just its answer. Written by a program of the session out of the translation. -/
import Derived.Test.YtdjomoogldkpfaaQg0
import Derived.Test.YtdjomoogldkpfaaQg1
section
namespace Go.Proofs.Ytdjomoogldkpfaa.PAll
open Go.RowKit Go.Proofs.YtdjomoogldkpfaaW.PrintWords Go.Proofs.YtdjomoogldkpfaaW.PrintLast Go.Proofs.YtdjomoogldkpfaaW.PrintMore
attribute [local go_sem] max2_int min2_int max_two min_two max_three min_three max_four min_four
set_option linter.unusedVariables false
set_option linter.unusedSimpArgs false
def impl_AbsAt.l0 : Nat → Int → Int → Int → List (S41) → List (S43) → Int → Int → Option ((List (S41)))
  | 0, _, _, _, _, _, _, _ => none
  | k + 1, x1, x2, x3, x9, x15, x16, x17 => if x17 < x16 then (if 0 ≤ x17 then (if x17 < (x15.length : Int) then (if ((rd_T43 x15 x17).f0) = x1 then (if ((rd_T43 x15 x17).f1) = x2 then (if ((rd_T43 x15 x17).f2) = x3 then (if ((rd_T43 x15 x17).f3.f0) ≥ 0 then (if x9.length < 5864062014805 then (impl_AbsAt.l0 k x1 x2 x3 (x9 ++ [(⟨(rd_T43 x15 x17).f3.f0, (rd_T43 x15 x17).f3.f1, (rd_T43 x15 x17).f3.f2⟩ : S41)]) x15 x16 (wrap64 (x17 + 1))) else (none)) else (impl_AbsAt.l0 k x1 x2 x3 x9 x15 x16 (wrap64 (x17 + 1)))) else (impl_AbsAt.l0 k x1 x2 x3 x9 x15 x16 (wrap64 (x17 + 1)))) else (impl_AbsAt.l0 k x1 x2 x3 x9 x15 x16 (wrap64 (x17 + 1)))) else (impl_AbsAt.l0 k x1 x2 x3 x9 x15 x16 (wrap64 (x17 + 1)))) else (none)) else (none)) else (some x9)
def impl_AbsAt.f (k : Nat) (l0 : List (S43)) (a1 : Int) (a2 : Int) (a3 : Int) : Option ((List (S41))) := (impl_FactsOk.f k l0).bind fun t482 => (if t482 = true then (impl_AbsAt.l0 k a1 a2 a3 ([] : List (S41)) l0 (l0.length : Int) 0) else (some ([] : List (S41))))
theorem impl_AbsAt.mono_l : ∀ k, (∀ y0 y1 y2 y3 y4 y5 y6, LeO (impl_AbsAt.l0 k y0 y1 y2 y3 y4 y5 y6) (impl_AbsAt.l0 (k + 1) y0 y1 y2 y3 y4 y5 y6))
  | 0 => fun _ _ _ _ _ _ _ r h => by simp [impl_AbsAt.l0] at h
  | k + 1 => by
    have ih0 := impl_AbsAt.mono_l k
    · intro y0 y1 y2 y3 y4 y5 y6
      unfold impl_AbsAt.l0
      repeat' first
      | (with_reducible exact ih0 _ _ _ _ _ _ _)
      | (with_reducible exact impl_FactsOk.mono _ _)
      | (with_reducible exact LeO.refl _)
      | (with_reducible exact LeO.none _)
      | (with_reducible refine LeO.ite ?_ ?_)
      | (with_reducible refine LeO.bind ?_ (fun _ => ?_))
      | exact LeO.none _
      | refine LeO.ite ?_ ?_
      | refine LeO.bind ?_ (fun _ => ?_)
theorem impl_AbsAt.mono : ∀ a0 a1 a2 a3 k, LeO (impl_AbsAt.f k a0 a1 a2 a3) (impl_AbsAt.f (k + 1) a0 a1 a2 a3) := by
  intro a0 a1 a2 a3 k
  have ih0 := impl_AbsAt.mono_l k
  unfold impl_AbsAt.f
  repeat' first
      | (with_reducible exact ih0 _ _ _ _ _ _ _)
      | (with_reducible exact impl_FactsOk.mono _ _)
      | (with_reducible exact LeO.refl _)
      | (with_reducible exact LeO.none _)
      | (with_reducible refine LeO.ite ?_ ?_)
      | (with_reducible refine LeO.bind ?_ (fun _ => ?_))
      | exact LeO.none _
      | refine LeO.ite ?_ ?_
      | refine LeO.bind ?_ (fun _ => ?_)
set_option maxHeartbeats 8000000 in
set_option maxRecDepth 100000 in
theorem impl_AbsAt.calls (k : Nat) (A0 : Option Addr) (c0 : Nat) (l0 : List (S43)) (a1 : Int) (a2 : Int) (a3 : Int) (r : List (S41)) (w : World) (hr0 : Kd.C k43 w A0 l0.length l0) (hc0 : l0.length ≤ c0) (h : impl_AbsAt.f k l0 a1 a2 a3 = some r) :
    Calls Try.prog 43 #[.slice A0 l0.length c0, .int .i64 a1, .int .i64 a2, .int .i64 a3] w fun e w' => ∃ v0_ : Value, e = .returned (v0_) ∧ Kd.R k41 41 w' w.heap.size (fun _ => True) v0_ r ∧ Below w.heap.size w w' := by
  have hu43 := Try.underlying43
  have hu41 := Try.underlying41
  have HR0 := Ad_.mk hr0
  have HC0 := Ad_.mk hc0
  clear hr0 hc0
  have HB := Ad_.mk (Below.refl w.heap.size w)
  have H := h
  unfold impl_AbsAt.f at H
  clear h
  replace H := Option.bind_eq_some_iff.mp H
  obtain ⟨t482, A50, H⟩ := H
  try dsimp only at H
  have A5 := Ad_.mk A50
  clear A50
  by_cases c6 : t482 = true
  rotate_left
  ·
   replace c6 := Bool.eq_false_iff.mpr c6
   subst c6
   have H1 : (some ([] : List (S41))) = some r := by rw [if_neg (show ¬ (false = true) by decide)] at H; exact H
   clear H
   have H := H1
   clear H1
   obtain rfl := Option.some.inj H
   go_enter Try.func43, Try.ntmps43
   go_wp2_with (first | ((with_reducible refine gC_ (f := 38) rfl ?_); refine gM_ (some 13) rfl rfl Try.func38 (by kernel_rfl) rfl #[.slice A0 l0.length c0] rfl ?_; (with_reducible refine (impl_FactsOk.calls k _ _ l0 false _ ?side1 ?side2 A5.out).mono ?_); (case side1 => repeat (first | exact HR0.out | (with_reducible refine Kd.C_alloc ?_ _) | (with_reducible refine Kd.C_drewN ?_ _) | (with_reducible refine Kd.C_drew ?_))); (case side2 => exact HC0.out); rintro e w27 ⟨rfl, hb⟩; refine ⟨_, rfl, ?_⟩; have n0_ := Ad_.mk (bP_ (by repeat (with_reducible first | exact HB.out | apply bA_ | apply bN_ | apply b1_)) hb); clear HB; have HB := n0_; clear n0_; (try clear hb); (try clear hb2); (try clear hk); (try clear hi)))
   go_ret
   exact ⟨_, by first | rfl | (simp [errW_none, errW_some] <;> rfl) | (simp [*, errW_none, errW_some] <;> rfl), by first | exact Kd.R_nil _ _ _ _ _ | exact Kd.N_nil _ _ _ _ _ | exact Kd.V_nil _ _ _ _ _ | exact Kd.Q_nil _ _ _ _ _ | exact Kd.S_nil _ _ _ _ _, by repeat (with_reducible first | exact HB.out | apply bA_ | apply bN_ | apply b1_)⟩
  subst c6
  have H1 := H
  rw [if_pos rfl] at H1
  clear H
  have H := H1
  clear H1
  have H' := Ad_.mk H
  clear H
  go_enter Try.func43, Try.ntmps43
  go_wp2_with (first | ((with_reducible refine gC_ (f := 38) rfl ?_); refine gM_ (some 13) rfl rfl Try.func38 (by kernel_rfl) rfl #[.slice A0 l0.length c0] rfl ?_; (with_reducible refine (impl_FactsOk.calls k _ _ l0 true _ ?side1 ?side2 A5.out).mono ?_); (case side1 => repeat (first | exact HR0.out | (with_reducible refine Kd.C_alloc ?_ _) | (with_reducible refine Kd.C_drewN ?_ _) | (with_reducible refine Kd.C_drew ?_))); (case side2 => exact HC0.out); rintro e w7 ⟨rfl, hb⟩; refine ⟨_, rfl, ?_⟩; have n0_ := Ad_.mk (bP_ (by repeat (with_reducible first | exact HB.out | apply bA_ | apply bN_ | apply b1_)) hb); clear HB; have HB := n0_; clear n0_; (try clear hb); (try clear hb2); (try clear hk); (try clear hi)))
  go_loopg [9, 17] k (fun kq v9 v17 w' => ∃ (x9_1 : List (S41)) (x17_1 : Int), v17 = .int .i64 x17_1 ∧ Ad_ (impl_AbsAt.l0 kq a1 a2 a3 x9_1 l0 (l0.length : Int) x17_1 = some r) ∧ Ad_ (kq ≤ k) ∧ Ad_ (Kd.R k41 41 w' w.heap.size (fun _ => True) v9 x9_1) ∧ Ad_ (Below w.heap.size w w'))
  case atStart => exact ⟨(([] : List (S41))), (0), fs_, H', ⟨Nat.le_refl _⟩, ⟨by first | exact Kd.R_nil _ _ _ _ _ | exact Kd.N_nil _ _ _ _ _ | exact Kd.V_nil _ _ _ _ _ | exact Kd.Q_nil _ _ _ _ _ | exact Kd.S_nil _ _ _ _ _⟩, ⟨by repeat (with_reducible first | exact HB.out | apply bA_ | apply bN_ | apply b1_)⟩⟩
  case round =>
    clear H'
    try clear p2
    obtain ⟨x9_1, x17_1, rfl, HA, HK1, HO_9, HB⟩ := hrel
    cases gk with
    | zero => exact absurd HA.out (by simp [impl_AbsAt.l0])
    | succ k1 =>
      have H := HA.out
      clear HA
      simp only [impl_AbsAt.l0] at H
      by_cases c8 : x17_1 < (l0.length : Int)
      rotate_left
      ·
       rw [if_neg c8] at H
       have c8b0 := decide_eq_false c8
       clear c8
       obtain rfl := Option.some.inj H
       go_wp2
       go_ret
       exact ⟨_, by first | rfl | (simp [errW_none, errW_some] <;> rfl) | (simp [*, errW_none, errW_some] <;> rfl), by (with_reducible repeat (first | apply Kd.R_alloc | apply Kd.R_drewN | apply Kd.R_drew)); exact HO_9.out, by repeat (with_reducible first | exact HB.out | apply bA_ | apply bN_ | apply b1_)⟩
      rw [if_pos c8] at H
      have c8b0 := decide_eq_true c8
      clear c8
      by_cases c9 : 0 ≤ x17_1
      rotate_left
      ·
       rw [if_neg c9] at H
       exact absurd H (by simp)
      rw [if_pos c9] at H
      have c9b0 := decide_eq_true c9
      clear c9
      by_cases c10 : x17_1 < (l0.length : Int)
      rotate_left
      ·
       rw [if_neg c10] at H
       exact absurd H (by simp)
      rw [if_pos c10] at H
      have c10b0 := decide_eq_true c10
      clear c10
      by_cases c11 : ((rd_T43 l0 x17_1).f0) = a1
      rotate_left
      ·
       rw [if_neg c11] at H
       have c11b0 : (((rd_T43 l0 x17_1).f0) == a1) = false := beq_eq_false_iff_ne.mpr c11
       have c11b1 : (((rd_T43 l0 x17_1).f0) != a1) = true := bne_iff_ne.mpr c11
       have H' := Ad_.mk H
       clear H
       have p483 : 0 ≤ (x17_1 : Int) := od_
       have q483 : x17_1 < (l0.length : Int) := od_
       obtain ⟨ad483, e483, hx483_0, hx483_1, hx483_2, hx483_3, hx483_4, hx483_5⟩ := at_T43 HR0.out x17_1 p483 q483
       cases e483
       replace hx483_0 := pB_ HB.out hx483_0
       replace hx483_1 := pB_ HB.out hx483_1
       replace hx483_2 := pB_ HB.out hx483_2
       replace hx483_3 := pB_ HB.out hx483_3
       replace hx483_4 := pB_ HB.out hx483_4
       replace hx483_5 := pB_ HB.out hx483_5
       replace p483 := eq_true p483
       replace q483 := eq_true q483
       go_wp2_with (first | ((with_reducible refine gD_ (N := 11) rfl ?_); refine bE_ ?hg (N := 11) ?hd (cs := #[.int .i64 0, .int .i64 0, .int .i64 0, .int .i64 0, .int .i64 0, .int .i64 0]) (t := 43) ?hr ?_; (case hd => rfl); (case hg => rfl); (case hr => first | (go_simp; done) | (go_simp; rfl)); intro gb484 hg w25 hbox hb; have n0_ := Ad_.mk (Kd.R_below (by (with_reducible repeat (first | apply Kd.R_alloc | apply Kd.R_drewN | apply Kd.R_drew)); exact HO_9.out) hb); have n1_ := Ad_.mk (bP_ (by repeat (with_reducible first | exact HB.out | apply bA_ | apply bN_ | apply b1_)) hb); have n2_ := Ad_.mk (hbox); have n3_ := Ad_.mk ((by rw [hg]; exact (bZ_ (by repeat (with_reducible first | exact HB.out | apply bA_ | apply bN_ | apply b1_))) : w.heap.size ≤ gb484)); have n4_ := Ad_.mk ((by rw [hg]; exact (bZ_ (by repeat (with_reducible first | exact HB.out | apply bA_ | apply bN_ | apply b1_))) : w.heap.size ≤ gb484)); clear HO_9; clear HB; have HO_9 := n0_; have HB := n1_; have BK484 := n2_; have GW484 := n3_; have GE484 := n4_; clear n0_ n1_ n2_ n3_ n4_; clear hb hbox hg; obtain ⟨hcz26_0, hcz26_1, hcz26_2, hcz26_3, hcz26_4, hcz26_5⟩ := cells6_ BK484.out; obtain ⟨hfz26_0, hfz26_1, hfz26_2, hfz26_3, hfz26_4, hfz26_5⟩ := froz6_ BK484.out))
       go_roundg k1
       case measure => have := HK1.out; omega
       case rel => exact ⟨(x9_1), (wrap64 (x17_1 + 1)), fs_, H', ⟨by have := HK1.out; omega⟩, ⟨by (with_reducible repeat (first | apply Kd.R_alloc | apply Kd.R_drewN | apply Kd.R_drew)); exact Kd.R_mono (Kd.R_far (p := ⟨gb484, 5, none⟩) (Kd.R_far (p := ⟨gb484, 4, none⟩) (Kd.R_far (p := ⟨gb484, 3, none⟩) (Kd.R_far (p := ⟨gb484, 2, none⟩) (Kd.R_far (p := ⟨gb484, 1, none⟩) (Kd.R_far (p := ⟨gb484, 0, none⟩) (Kd.R_types HO_9.out BK484.out (by decide)) (fun _ hk => hk.2) (.int .i64 ((rd_T43 l0 x17_1).f0))) (fun _ hk => hk.2) (.int .i64 ((rd_T43 l0 x17_1).f1))) (fun _ hk => hk.2) (.int .i64 ((rd_T43 l0 x17_1).f2))) (fun _ hk => hk.2) (.int .i64 ((rd_T43 l0 x17_1).f3.f0))) (fun _ hk => hk.2) (.int .i64 ((rd_T43 l0 x17_1).f3.f1))) (fun _ hk => hk.2) (.int .i64 ((rd_T43 l0 x17_1).f3.f2))) (fun _ hk => trivial)⟩, ⟨by repeat (with_reducible first | exact HB.out | apply bA_ | apply bN_ | apply b1_ | refine bS_ ?_ GE484.out)⟩⟩
      rw [if_pos c11] at H
      have c11b0 : (((rd_T43 l0 x17_1).f0) == a1) = true := beq_iff_eq.mpr c11
      have c11b1 : (((rd_T43 l0 x17_1).f0) != a1) = false := bne_eq_false_iff_eq.mpr c11
      clear c11
      by_cases c12 : ((rd_T43 l0 x17_1).f1) = a2
      rotate_left
      ·
       rw [if_neg c12] at H
       have c12b0 : (((rd_T43 l0 x17_1).f1) == a2) = false := beq_eq_false_iff_ne.mpr c12
       have c12b1 : (((rd_T43 l0 x17_1).f1) != a2) = true := bne_iff_ne.mpr c12
       have H' := Ad_.mk H
       clear H
       have p483 : 0 ≤ (x17_1 : Int) := od_
       have q483 : x17_1 < (l0.length : Int) := od_
       obtain ⟨ad483, e483, hx483_0, hx483_1, hx483_2, hx483_3, hx483_4, hx483_5⟩ := at_T43 HR0.out x17_1 p483 q483
       cases e483
       replace hx483_0 := pB_ HB.out hx483_0
       replace hx483_1 := pB_ HB.out hx483_1
       replace hx483_2 := pB_ HB.out hx483_2
       replace hx483_3 := pB_ HB.out hx483_3
       replace hx483_4 := pB_ HB.out hx483_4
       replace hx483_5 := pB_ HB.out hx483_5
       replace p483 := eq_true p483
       replace q483 := eq_true q483
       go_wp2_with (first | ((with_reducible refine gD_ (N := 11) rfl ?_); refine bE_ ?hg (N := 11) ?hd (cs := #[.int .i64 0, .int .i64 0, .int .i64 0, .int .i64 0, .int .i64 0, .int .i64 0]) (t := 43) ?hr ?_; (case hd => rfl); (case hg => rfl); (case hr => first | (go_simp; done) | (go_simp; rfl)); intro gb484 hg w23 hbox hb; have n0_ := Ad_.mk (Kd.R_below (by (with_reducible repeat (first | apply Kd.R_alloc | apply Kd.R_drewN | apply Kd.R_drew)); exact HO_9.out) hb); have n1_ := Ad_.mk (bP_ (by repeat (with_reducible first | exact HB.out | apply bA_ | apply bN_ | apply b1_)) hb); have n2_ := Ad_.mk (hbox); have n3_ := Ad_.mk ((by rw [hg]; exact (bZ_ (by repeat (with_reducible first | exact HB.out | apply bA_ | apply bN_ | apply b1_))) : w.heap.size ≤ gb484)); have n4_ := Ad_.mk ((by rw [hg]; exact (bZ_ (by repeat (with_reducible first | exact HB.out | apply bA_ | apply bN_ | apply b1_))) : w.heap.size ≤ gb484)); clear HO_9; clear HB; have HO_9 := n0_; have HB := n1_; have BK484 := n2_; have GW484 := n3_; have GE484 := n4_; clear n0_ n1_ n2_ n3_ n4_; clear hb hbox hg; obtain ⟨hcz24_0, hcz24_1, hcz24_2, hcz24_3, hcz24_4, hcz24_5⟩ := cells6_ BK484.out; obtain ⟨hfz24_0, hfz24_1, hfz24_2, hfz24_3, hfz24_4, hfz24_5⟩ := froz6_ BK484.out))
       go_roundg k1
       case measure => have := HK1.out; omega
       case rel => exact ⟨(x9_1), (wrap64 (x17_1 + 1)), fs_, H', ⟨by have := HK1.out; omega⟩, ⟨by (with_reducible repeat (first | apply Kd.R_alloc | apply Kd.R_drewN | apply Kd.R_drew)); exact Kd.R_mono (Kd.R_far (p := ⟨gb484, 5, none⟩) (Kd.R_far (p := ⟨gb484, 4, none⟩) (Kd.R_far (p := ⟨gb484, 3, none⟩) (Kd.R_far (p := ⟨gb484, 2, none⟩) (Kd.R_far (p := ⟨gb484, 1, none⟩) (Kd.R_far (p := ⟨gb484, 0, none⟩) (Kd.R_types HO_9.out BK484.out (by decide)) (fun _ hk => hk.2) (.int .i64 ((rd_T43 l0 x17_1).f0))) (fun _ hk => hk.2) (.int .i64 ((rd_T43 l0 x17_1).f1))) (fun _ hk => hk.2) (.int .i64 ((rd_T43 l0 x17_1).f2))) (fun _ hk => hk.2) (.int .i64 ((rd_T43 l0 x17_1).f3.f0))) (fun _ hk => hk.2) (.int .i64 ((rd_T43 l0 x17_1).f3.f1))) (fun _ hk => hk.2) (.int .i64 ((rd_T43 l0 x17_1).f3.f2))) (fun _ hk => trivial)⟩, ⟨by repeat (with_reducible first | exact HB.out | apply bA_ | apply bN_ | apply b1_ | refine bS_ ?_ GE484.out)⟩⟩
      rw [if_pos c12] at H
      have c12b0 : (((rd_T43 l0 x17_1).f1) == a2) = true := beq_iff_eq.mpr c12
      have c12b1 : (((rd_T43 l0 x17_1).f1) != a2) = false := bne_eq_false_iff_eq.mpr c12
      clear c12
      by_cases c13 : ((rd_T43 l0 x17_1).f2) = a3
      rotate_left
      ·
       rw [if_neg c13] at H
       have c13b0 : (((rd_T43 l0 x17_1).f2) == a3) = false := beq_eq_false_iff_ne.mpr c13
       have c13b1 : (((rd_T43 l0 x17_1).f2) != a3) = true := bne_iff_ne.mpr c13
       have H' := Ad_.mk H
       clear H
       have p483 : 0 ≤ (x17_1 : Int) := od_
       have q483 : x17_1 < (l0.length : Int) := od_
       obtain ⟨ad483, e483, hx483_0, hx483_1, hx483_2, hx483_3, hx483_4, hx483_5⟩ := at_T43 HR0.out x17_1 p483 q483
       cases e483
       replace hx483_0 := pB_ HB.out hx483_0
       replace hx483_1 := pB_ HB.out hx483_1
       replace hx483_2 := pB_ HB.out hx483_2
       replace hx483_3 := pB_ HB.out hx483_3
       replace hx483_4 := pB_ HB.out hx483_4
       replace hx483_5 := pB_ HB.out hx483_5
       replace p483 := eq_true p483
       replace q483 := eq_true q483
       go_wp2_with (first | ((with_reducible refine gD_ (N := 11) rfl ?_); refine bE_ ?hg (N := 11) ?hd (cs := #[.int .i64 0, .int .i64 0, .int .i64 0, .int .i64 0, .int .i64 0, .int .i64 0]) (t := 43) ?hr ?_; (case hd => rfl); (case hg => rfl); (case hr => first | (go_simp; done) | (go_simp; rfl)); intro gb484 hg w21 hbox hb; have n0_ := Ad_.mk (Kd.R_below (by (with_reducible repeat (first | apply Kd.R_alloc | apply Kd.R_drewN | apply Kd.R_drew)); exact HO_9.out) hb); have n1_ := Ad_.mk (bP_ (by repeat (with_reducible first | exact HB.out | apply bA_ | apply bN_ | apply b1_)) hb); have n2_ := Ad_.mk (hbox); have n3_ := Ad_.mk ((by rw [hg]; exact (bZ_ (by repeat (with_reducible first | exact HB.out | apply bA_ | apply bN_ | apply b1_))) : w.heap.size ≤ gb484)); have n4_ := Ad_.mk ((by rw [hg]; exact (bZ_ (by repeat (with_reducible first | exact HB.out | apply bA_ | apply bN_ | apply b1_))) : w.heap.size ≤ gb484)); clear HO_9; clear HB; have HO_9 := n0_; have HB := n1_; have BK484 := n2_; have GW484 := n3_; have GE484 := n4_; clear n0_ n1_ n2_ n3_ n4_; clear hb hbox hg; obtain ⟨hcz22_0, hcz22_1, hcz22_2, hcz22_3, hcz22_4, hcz22_5⟩ := cells6_ BK484.out; obtain ⟨hfz22_0, hfz22_1, hfz22_2, hfz22_3, hfz22_4, hfz22_5⟩ := froz6_ BK484.out))
       go_roundg k1
       case measure => have := HK1.out; omega
       case rel => exact ⟨(x9_1), (wrap64 (x17_1 + 1)), fs_, H', ⟨by have := HK1.out; omega⟩, ⟨by (with_reducible repeat (first | apply Kd.R_alloc | apply Kd.R_drewN | apply Kd.R_drew)); exact Kd.R_mono (Kd.R_far (p := ⟨gb484, 5, none⟩) (Kd.R_far (p := ⟨gb484, 4, none⟩) (Kd.R_far (p := ⟨gb484, 3, none⟩) (Kd.R_far (p := ⟨gb484, 2, none⟩) (Kd.R_far (p := ⟨gb484, 1, none⟩) (Kd.R_far (p := ⟨gb484, 0, none⟩) (Kd.R_types HO_9.out BK484.out (by decide)) (fun _ hk => hk.2) (.int .i64 ((rd_T43 l0 x17_1).f0))) (fun _ hk => hk.2) (.int .i64 ((rd_T43 l0 x17_1).f1))) (fun _ hk => hk.2) (.int .i64 ((rd_T43 l0 x17_1).f2))) (fun _ hk => hk.2) (.int .i64 ((rd_T43 l0 x17_1).f3.f0))) (fun _ hk => hk.2) (.int .i64 ((rd_T43 l0 x17_1).f3.f1))) (fun _ hk => hk.2) (.int .i64 ((rd_T43 l0 x17_1).f3.f2))) (fun _ hk => trivial)⟩, ⟨by repeat (with_reducible first | exact HB.out | apply bA_ | apply bN_ | apply b1_ | refine bS_ ?_ GE484.out)⟩⟩
      rw [if_pos c13] at H
      have c13b0 : (((rd_T43 l0 x17_1).f2) == a3) = true := beq_iff_eq.mpr c13
      have c13b1 : (((rd_T43 l0 x17_1).f2) != a3) = false := bne_eq_false_iff_eq.mpr c13
      clear c13
      by_cases c14 : ((rd_T43 l0 x17_1).f3.f0) ≥ 0
      rotate_left
      ·
       rw [if_neg c14] at H
       have c14b0 := decide_eq_false c14
       clear c14
       have H' := Ad_.mk H
       clear H
       have p483 : 0 ≤ (x17_1 : Int) := od_
       have q483 : x17_1 < (l0.length : Int) := od_
       obtain ⟨ad483, e483, hx483_0, hx483_1, hx483_2, hx483_3, hx483_4, hx483_5⟩ := at_T43 HR0.out x17_1 p483 q483
       cases e483
       replace hx483_0 := pB_ HB.out hx483_0
       replace hx483_1 := pB_ HB.out hx483_1
       replace hx483_2 := pB_ HB.out hx483_2
       replace hx483_3 := pB_ HB.out hx483_3
       replace hx483_4 := pB_ HB.out hx483_4
       replace hx483_5 := pB_ HB.out hx483_5
       replace p483 := eq_true p483
       replace q483 := eq_true q483
       go_wp2_with (first | ((with_reducible refine gD_ (N := 11) rfl ?_); refine bE_ ?hg (N := 11) ?hd (cs := #[.int .i64 0, .int .i64 0, .int .i64 0, .int .i64 0, .int .i64 0, .int .i64 0]) (t := 43) ?hr ?_; (case hd => rfl); (case hg => rfl); (case hr => first | (go_simp; done) | (go_simp; rfl)); intro gb484 hg w19 hbox hb; have n0_ := Ad_.mk (Kd.R_below (by (with_reducible repeat (first | apply Kd.R_alloc | apply Kd.R_drewN | apply Kd.R_drew)); exact HO_9.out) hb); have n1_ := Ad_.mk (bP_ (by repeat (with_reducible first | exact HB.out | apply bA_ | apply bN_ | apply b1_)) hb); have n2_ := Ad_.mk (hbox); have n3_ := Ad_.mk ((by rw [hg]; exact (bZ_ (by repeat (with_reducible first | exact HB.out | apply bA_ | apply bN_ | apply b1_))) : w.heap.size ≤ gb484)); have n4_ := Ad_.mk ((by rw [hg]; exact (bZ_ (by repeat (with_reducible first | exact HB.out | apply bA_ | apply bN_ | apply b1_))) : w.heap.size ≤ gb484)); clear HO_9; clear HB; have HO_9 := n0_; have HB := n1_; have BK484 := n2_; have GW484 := n3_; have GE484 := n4_; clear n0_ n1_ n2_ n3_ n4_; clear hb hbox hg; obtain ⟨hcz20_0, hcz20_1, hcz20_2, hcz20_3, hcz20_4, hcz20_5⟩ := cells6_ BK484.out; obtain ⟨hfz20_0, hfz20_1, hfz20_2, hfz20_3, hfz20_4, hfz20_5⟩ := froz6_ BK484.out))
       go_roundg k1
       case measure => have := HK1.out; omega
       case rel => exact ⟨(x9_1), (wrap64 (x17_1 + 1)), fs_, H', ⟨by have := HK1.out; omega⟩, ⟨by (with_reducible repeat (first | apply Kd.R_alloc | apply Kd.R_drewN | apply Kd.R_drew)); exact Kd.R_mono (Kd.R_far (p := ⟨gb484, 5, none⟩) (Kd.R_far (p := ⟨gb484, 4, none⟩) (Kd.R_far (p := ⟨gb484, 3, none⟩) (Kd.R_far (p := ⟨gb484, 2, none⟩) (Kd.R_far (p := ⟨gb484, 1, none⟩) (Kd.R_far (p := ⟨gb484, 0, none⟩) (Kd.R_types HO_9.out BK484.out (by decide)) (fun _ hk => hk.2) (.int .i64 ((rd_T43 l0 x17_1).f0))) (fun _ hk => hk.2) (.int .i64 ((rd_T43 l0 x17_1).f1))) (fun _ hk => hk.2) (.int .i64 ((rd_T43 l0 x17_1).f2))) (fun _ hk => hk.2) (.int .i64 ((rd_T43 l0 x17_1).f3.f0))) (fun _ hk => hk.2) (.int .i64 ((rd_T43 l0 x17_1).f3.f1))) (fun _ hk => hk.2) (.int .i64 ((rd_T43 l0 x17_1).f3.f2))) (fun _ hk => trivial)⟩, ⟨by repeat (with_reducible first | exact HB.out | apply bA_ | apply bN_ | apply b1_ | refine bS_ ?_ GE484.out)⟩⟩
      rw [if_pos c14] at H
      have c14b0 := decide_eq_true c14
      clear c14
      by_cases c15 : x9_1.length < 5864062014805
      rotate_left
      ·
       rw [if_neg c15] at H
       exact absurd H (by simp)
      rw [if_pos c15] at H
      have LMc15 := Ad_.mk c15
      clear c15
      obtain ⟨y485, hy485⟩ : ∃ y_ : List (S41), y_ = (x9_1 ++ [(⟨(rd_T43 l0 x17_1).f3.f0, (rd_T43 l0 x17_1).f3.f1, (rd_T43 l0 x17_1).f3.f2⟩ : S41)]) := ⟨_, rfl⟩
      replace H : (impl_AbsAt.l0 k1 a1 a2 a3 y485 l0 (l0.length : Int) (wrap64 (x17_1 + 1))) = some r := by first | (rw [hy485]; with_reducible exact H) | (have H2_ := (Option.bind_some _ _).symm.trans H; rw [hy485]; with_reducible exact H2_) | (have H2_ := (Option.bind_some _ _).symm.trans H; with_reducible exact H2_) | with_reducible exact H | (rw [hy485]; exact H) | exact H
      have Ny485 := Ad_.mk hy485
      clear hy485
      have H' := Ad_.mk H
      clear H
      have p483 : 0 ≤ (x17_1 : Int) := od_
      have q483 : x17_1 < (l0.length : Int) := od_
      obtain ⟨ad483, e483, hx483_0, hx483_1, hx483_2, hx483_3, hx483_4, hx483_5⟩ := at_T43 HR0.out x17_1 p483 q483
      cases e483
      replace hx483_0 := pB_ HB.out hx483_0
      replace hx483_1 := pB_ HB.out hx483_1
      replace hx483_2 := pB_ HB.out hx483_2
      replace hx483_3 := pB_ HB.out hx483_3
      replace hx483_4 := pB_ HB.out hx483_4
      replace hx483_5 := pB_ HB.out hx483_5
      replace p483 := eq_true p483
      replace q483 := eq_true q483
      go_wp2_with (first | ((with_reducible refine gD_ (N := 11) rfl ?_); refine bE_ ?hg (N := 11) ?hd (cs := #[.int .i64 0, .int .i64 0, .int .i64 0, .int .i64 0, .int .i64 0, .int .i64 0]) (t := 43) ?hr ?_; (case hd => rfl); (case hg => rfl); (case hr => first | (go_simp; done) | (go_simp; rfl)); intro gb484 hg w16 hbox hb; have n0_ := Ad_.mk (Kd.R_below (by (with_reducible repeat (first | apply Kd.R_alloc | apply Kd.R_drewN | apply Kd.R_drew)); exact HO_9.out) hb); have n1_ := Ad_.mk (bP_ (by repeat (with_reducible first | exact HB.out | apply bA_ | apply bN_ | apply b1_)) hb); have n2_ := Ad_.mk (hbox); have n3_ := Ad_.mk ((by rw [hg]; exact (bZ_ (by repeat (with_reducible first | exact HB.out | apply bA_ | apply bN_ | apply b1_))) : w.heap.size ≤ gb484)); have n4_ := Ad_.mk ((by rw [hg]; exact (bZ_ (by repeat (with_reducible first | exact HB.out | apply bA_ | apply bN_ | apply b1_))) : w.heap.size ≤ gb484)); clear HO_9; clear HB; have HO_9 := n0_; have HB := n1_; have BK484 := n2_; have GW484 := n3_; have GE484 := n4_; clear n0_ n1_ n2_ n3_ n4_; clear hb hbox hg; obtain ⟨hcz17_0, hcz17_1, hcz17_2, hcz17_3, hcz17_4, hcz17_5⟩ := cells6_ BK484.out; obtain ⟨hfz17_0, hfz17_1, hfz17_2, hfz17_3, hfz17_4, hfz17_5⟩ := froz6_ BK484.out) | ((with_reducible refine gB_ (b := .append) (xs := #[.tmp 43, .tmp 46]) rfl ?_); at_builtin; refine Kd.R_append k41 (w0 := w) w.heap.size rfl (.tmp 43) (.tmp 46) 63 41 (.agg #[(.int .i64 0), (.int .i64 0), (.int .i64 0)]) 24 rfl Try.underlying63 info41 rfl (by decide) (by omega) u9 x9_1 (⟨(rd_T43 l0 x17_1).f3.f0, (rd_T43 l0 x17_1).f3.f1, (rd_T43 l0 x17_1).f3.f2⟩ : S41) [.int .i64 ((rd_T43 l0 x17_1).f3.f0), .int .i64 ((rd_T43 l0 x17_1).f3.f1), .int .i64 ((rd_T43 l0 x17_1).f3.f2)] (fun _ => True) (fun _ => False) rfl (by first | (go_simp; done) | (go_simp; rfl)) ?aP (fun _ hk => hk.elim) ?aF ?aO ?aB ?aS ?aL ?_; (case aP => exact k41_mkM _ _ _ (⟨(rd_T43 l0 x17_1).f3.f0, (rd_T43 l0 x17_1).f3.f1, (rd_T43 l0 x17_1).f3.f2⟩ : S41)); (case aB => exact (by repeat (with_reducible first | exact HB.out | apply bA_ | apply bN_ | apply b1_ | refine bS_ ?_ GE484.out))); (case aF => exact (fun _ _ => trivial)); (case aO => exact (by (with_reducible repeat (first | apply Kd.R_alloc | apply Kd.R_drewN | apply Kd.R_drew)); exact Kd.R_mono (Kd.R_far (p := ⟨gb484, 5, none⟩) (Kd.R_far (p := ⟨gb484, 4, none⟩) (Kd.R_far (p := ⟨gb484, 3, none⟩) (Kd.R_far (p := ⟨gb484, 2, none⟩) (Kd.R_far (p := ⟨gb484, 1, none⟩) (Kd.R_far (p := ⟨gb484, 0, none⟩) (Kd.R_types HO_9.out BK484.out (by decide)) (fun _ hk => hk.2) (.int .i64 ((rd_T43 l0 x17_1).f0))) (fun _ hk => hk.2) (.int .i64 ((rd_T43 l0 x17_1).f1))) (fun _ hk => hk.2) (.int .i64 ((rd_T43 l0 x17_1).f2))) (fun _ hk => hk.2) (.int .i64 ((rd_T43 l0 x17_1).f3.f0))) (fun _ hk => hk.2) (.int .i64 ((rd_T43 l0 x17_1).f3.f1))) (fun _ hk => hk.2) (.int .i64 ((rd_T43 l0 x17_1).f3.f2))) (fun _ hk => trivial))); (case aS => exact (bZ_ (by repeat (with_reducible first | exact HB.out | apply bA_ | apply bN_ | apply b1_ | refine bS_ ?_ GE484.out)))); (case aL => have := LMc15.out; omega); intro v486 w18 ho hb hg hat; rw [← Ny485.out] at ho; have n0_ := Ad_.mk (blk_grown (g := gb484) (o := .cells #[.int .i64 ((rd_T43 l0 x17_1).f0), .int .i64 ((rd_T43 l0 x17_1).f1), .int .i64 ((rd_T43 l0 x17_1).f2), .int .i64 ((rd_T43 l0 x17_1).f3.f0), .int .i64 ((rd_T43 l0 x17_1).f3.f1), .int .i64 ((rd_T43 l0 x17_1).f3.f2)] 43 (0, 0)) (by (with_reducible repeat (first | refine kN_ ?_ _ | refine k1_ ?_ | refine kA_ ?_ _)); refine blk_put (cs := #[.int .i64 ((rd_T43 l0 x17_1).f0), .int .i64 ((rd_T43 l0 x17_1).f1), .int .i64 ((rd_T43 l0 x17_1).f2), .int .i64 ((rd_T43 l0 x17_1).f3.f0), .int .i64 ((rd_T43 l0 x17_1).f3.f1), .int .i64 0]) ?_ 5 _ rfl; (with_reducible repeat (first | refine kN_ ?_ _ | refine k1_ ?_ | refine kA_ ?_ _)); refine blk_put (cs := #[.int .i64 ((rd_T43 l0 x17_1).f0), .int .i64 ((rd_T43 l0 x17_1).f1), .int .i64 ((rd_T43 l0 x17_1).f2), .int .i64 ((rd_T43 l0 x17_1).f3.f0), .int .i64 0, .int .i64 0]) ?_ 4 _ rfl; (with_reducible repeat (first | refine kN_ ?_ _ | refine k1_ ?_ | refine kA_ ?_ _)); refine blk_put (cs := #[.int .i64 ((rd_T43 l0 x17_1).f0), .int .i64 ((rd_T43 l0 x17_1).f1), .int .i64 ((rd_T43 l0 x17_1).f2), .int .i64 0, .int .i64 0, .int .i64 0]) ?_ 3 _ rfl; (with_reducible repeat (first | refine kN_ ?_ _ | refine k1_ ?_ | refine kA_ ?_ _)); refine blk_put (cs := #[.int .i64 ((rd_T43 l0 x17_1).f0), .int .i64 ((rd_T43 l0 x17_1).f1), .int .i64 0, .int .i64 0, .int .i64 0, .int .i64 0]) ?_ 2 _ rfl; (with_reducible repeat (first | refine kN_ ?_ _ | refine k1_ ?_ | refine kA_ ?_ _)); refine blk_put (cs := #[.int .i64 ((rd_T43 l0 x17_1).f0), .int .i64 0, .int .i64 0, .int .i64 0, .int .i64 0, .int .i64 0]) ?_ 1 _ rfl; (with_reducible repeat (first | refine kN_ ?_ _ | refine k1_ ?_ | refine kA_ ?_ _)); refine blk_put (cs := #[.int .i64 0, .int .i64 0, .int .i64 0, .int .i64 0, .int .i64 0, .int .i64 0]) ?_ 0 _ rfl; (with_reducible repeat (first | refine kN_ ?_ _ | refine k1_ ?_ | refine kA_ ?_ _)); exact BK484.out) hg (Kd.R_ne HO_9.out BK484.out (by decide))); have n1_ := Ad_.mk (hb); have n2_ := Ad_.mk (ho); clear BK484; clear HB; clear HO_9; have BK484 := n0_; have HB := n1_; have HO487 := n2_; clear n0_ n1_ n2_; clear ho hb hg hat))
      go_roundg k1
      case measure => have := HK1.out; omega
      case rel => exact ⟨(y485), (wrap64 (x17_1 + 1)), fs_, H', ⟨by have := HK1.out; omega⟩, ⟨by (with_reducible repeat (first | apply Kd.R_alloc | apply Kd.R_drewN | apply Kd.R_drew)); exact HO487.out⟩, ⟨by repeat (with_reducible first | exact HB.out | apply bA_ | apply bN_ | apply b1_ | refine bS_ ?_ GE484.out)⟩⟩
end Go.Proofs.Ytdjomoogldkpfaa.PAll
end
section
namespace Go.Proofs.Ytdjomoogldkpfaa.PAll
open Go.RowKit Go.Proofs.YtdjomoogldkpfaaW.PrintWords Go.Proofs.YtdjomoogldkpfaaW.PrintLast
theorem cut_to_max {P : Program} (t e : TypeId) (kh km : IntKind) {i : TypeInfo} (ht : P.underlying t = some (.slice e)) (hi : P.info? e = some i) (A : Option Addr) (n c : Nat) (j m : Int) (h0 : 0 ≤ j) (hjm : j ≤ m) (hm : m ≤ n) (hc : n ≤ c) :
    ∀ W : World, (Instr.slice t (.slice A n c) none (some (.int kh j)) (some (.int km m))).run P W = .ok (.slice A j.toNat m.toNat) W := by
  intro W
  have hel : P.elem t = e := by simp [Program.elem, ht]
  have hu : P.underlying t = some (.slice (P.elem t)) := by rw [hel]; exact ht
  have ha : (A.map fun x => x.add 0) = A := by cases A <;> simp [Addr.add]
  rw [run_slice_hm W t A n c hu kh km j m h0 hjm (by omega), hel]
  simp [sizeOf, typeInfo, hi, sliced, Result.andThen, ha]
def cutv : Value → Value
  | .slice A n _ => .slice A n n
  | v => v
theorem run_append_full {P : Program} (w : World) (base : Nat) (t ty e : TypeId) (i : TypeInfo) (z : Value) (size bytes : Nat) (ht : P.underlying t = some (.slice e)) (hi : P.info? e = some i) (hz : i.zero = some z)
    (hsize : i.size = size) (hby : i.bytes = bytes) (hzs : z.cells.size = size)
    (v : Value) (n : Nat) (xs : List Value) (hown : w.ownsRow base e size v n xs)
    (a : Addr) (m c : Nat) (news : List Value) (hl : news.length = m * size) (hnews : ∀ j u, news[j]? = some u → w.cell? (a.add j) = some u) (hm : 0 < m)
    (h63 : n + m ≤ maxLen) (hbytes : (n + m) * bytes ≤ 140737488355328) (hbase : base ≤ w.heap.size) :
    ∃ v' w', (Builtin.append_ #[t, t] ty #[cutv v, .slice (some a) m c]).run P w = .ok v' w' ∧ w'.ownsRow base e size v' (n + m) (xs ++ news) ∧ w.grownBy w' v.ownBlock ∧ v'.ownBlock = some w.heap.size := by
  subst hsize
  subst hby
  have hsmall : n + m ≤ 9223372036854775807 := by simp only [maxLen] at h63; omega
  have hlen : (xs ++ news).length = (n + m) * i.size := by rw [List.length_append, hown.1, hl, Nat.add_mul]
  have grown : ∀ (old : Nat), old < n + m → ∀ (row : Option Nat),
      (w.drew.alloc (.cells (xs.toArray ++ news.toArray ++ Builtin.zeroCells z.cells (grownCap w (n + m) old e - (n + m))) e)).ownsRow base e i.size
        (.slice (some ⟨w.heap.size, 0, none⟩) (n + m) (grownCap w (n + m) old e)) (n + m) (xs ++ news) ∧
      w.grownBy (w.drew.alloc (.cells (xs.toArray ++ news.toArray ++ Builtin.zeroCells z.cells (grownCap w (n + m) old e - (n + m))) e)) row := by
    intro old ho row
    have hge := grownCap_ge w (n + m) old e
    have hcm : grownCap w (n + m) old e ≤ maxLen := grownCap_le_maxLen w (n + m) old e h63
    refine ⟨⟨hlen, .inr ⟨w.heap.size, _, _, rfl, hbase, heap_alloc_new w.drew _, hge, hcm, ?_, ?_⟩⟩, ⟨rfl, rfl, rfl, by simp, fun k hk _ => heap_alloc_old w.drew _ hk⟩⟩
    · simp only [Array.size_append, List.size_toArray, size_zeroCells, hzs, hown.1, hl, ← Nat.add_mul]
      congr 1
      omega
    · simp only [Array.toList_append, List.append_assoc]
      rw [← List.append_assoc, ← hlen]
      exact List.take_left
  rcases hown.2 with ⟨rfl, rfl⟩ | ⟨g, cap, cur, rfl, hbg, hg, hnc, hcm, hcs, htake⟩
  · have hx : xs = [] := List.eq_nil_of_length_eq_zero (by simpa using hown.1)
    subst hx
    have hr := run_append_nil (P := P) w t ty e i z ht hi hz a m c news hl hnews (by omega) (by omega) (by have hb := hbytes; simp only [Nat.zero_add] at hb; omega)
    have hgr := grown 0 (by omega) (Value.ownBlock (.slice none 0 0))
    simp only [Nat.zero_add, List.nil_append, Array.empty_append] at hgr ⊢
    exact ⟨_, _, hr, hgr.1, hgr.2, rfl⟩
  · have holds : ∀ j u, xs[j]? = some u → w.cell? ((⟨g, 0, none⟩ : Addr).add j) = some u := hown.cells (g := g) rfl
    have hr := run_append_grow (P := P) w t ty e i z ht hi hz ⟨g, 0, none⟩ n n xs hown.1 holds a m c news hl hnews (by omega) (by omega) (growslice_fits (by omega) hbytes)
    have hgr := grown n (by omega) (Value.ownBlock (.slice (some ⟨g, 0, none⟩) n cap))
    exact ⟨_, _, hr, hgr.1, hgr.2, rfl⟩
section
variable {P : Program} {ops : Array Oper} {o : Oper} {a : Act} {Q : Exit → Act → World → Prop} {Kc : Act → World → Prop} {α : Type}
theorem R_append_full_step (d : Kd α) {w0 W : World} (base : Nat) (hw : Region.wanted o (yielded ops a.tmps) = true) (s x : Operand) (t e : TypeId) (z : Value) (bytes : Nat)
    (ho : o.op = .call { callee := .builtin .append, args := #[s, x], argTypes := #[t, t] })
    (ht : P.underlying t = some (.slice e)) (hinfo : (P.info? e).map (fun i => (i.zero, i.size, i.bytes)) = some (some z, d.sz, bytes)) (hz : z.cells.size = d.sz) (_hs0 : 0 < d.sz) (hb0 : 0 < bytes)
    (v : Value) (xs : List α) (p : α) (cs : List Value) (ok okp : Nat → Prop) (hs : a.eval s = cutv v) (hx : a.eval x = .slice (some ⟨W.heap.size, 0, none⟩) 1 1) (hp : d.M W base okp p cs) (hokp : ∀ k, okp k → ok k ∧ some k ≠ v.ownBlock) (hfresh : ∀ k, W.heap.size ≤ k → ok k)
    (HO : d.R e W base ok v xs) (HB : Below base w0 W) (hbase : base ≤ W.heap.size) (hl : (xs.length + 1) * bytes ≤ 140737488355328)
    (h : ∀ v1 w1, d.R e w1 base ok v1 (xs ++ [p]) → Below base w0 w1 → W.grownBy w1 v.ownBlock → (v1.ownBlock = v.ownBlock ∨ ∃ b, v1.ownBlock = some b ∧ W.heap.size ≤ b) → Kc (a.put o.dst v1) w1) :
    if Region.wanted o (yielded ops a.tmps) = true then Oper.wp P o a (W.alloc (.cells cs.toArray e)) Kc Q else Kc (a.put o.dst undef) (W.alloc (.cells cs.toArray e)) := by
  obtain ⟨h0, inner, hown, hr⟩ := HO
  have hys := d.K_len (d.K_of_M hp)
  obtain ⟨i0, hi, hzz⟩ := Option.map_eq_some_iff.1 hinfo
  simp only [Prod.mk.injEq] at hzz
  obtain ⟨hz0, hz1, hz2⟩ := hzz
  have hlen : xs.length + 1 ≤ 140737488355328 := Nat.le_trans (Nat.le_mul_of_pos_right _ hb0) hl
  rw [if_pos hw]
  obtain ⟨v1, w1, hrun, hown1, hg, hat⟩ := run_append_full (P := P) (W.alloc (.cells cs.toArray e)) base t o.type e i0 z d.sz bytes ht hi hz0 hz1 hz2 hz v xs.length inner (hown.alloc _) ⟨W.heap.size, 0, none⟩ 1 1 cs (by rw [hys]; simp)
    (by simpa using World.news_of_block (cs := cs.toArray) (t := e) (fr := (0, 0)) (heap_alloc_new W (.cells cs.toArray e))) (by omega) (by simp only [maxLen]; omega) hl (by simp; omega)
  unfold Oper.wp execOp
  simp only [ho, resolve, invoke, builtin, Sem.run_bind, Sem.run_pure, Result.andThen_ok, List.map_toArray, List.map_cons, List.map_nil, hs, hx, hrun]
  have hg1 : W.grownBy w1 v.ownBlock := World.grownBy.trans (World.grownBy_alloc W _ _) hg
  have hat1 : v1.ownBlock = v.ownBlock ∨ ∃ b, v1.ownBlock = some b ∧ W.heap.size ≤ b := .inr ⟨_, hat, by simp⟩
  exact h v1 w1 (Kd.R_appended h0 hr hp hokp hfresh hown1 hg1 hat1) ((HB.alloc hbase _).grown hg (by simp; omega) (own_base hown)) hg1 hat1
end
end Go.Proofs.Ytdjomoogldkpfaa.PAll
end
section
namespace Go.Proofs.Ytdjomoogldkpfaa.PAll
open Go.RowKit Go.Proofs.YtdjomoogldkpfaaW.PrintWords Go.Proofs.YtdjomoogldkpfaaW.PrintLast Go.Proofs.YtdjomoogldkpfaaW.PrintMore
attribute [local go_sem] max2_int min2_int max_two min_two max_three min_three max_four min_four
set_option linter.unusedVariables false
set_option linter.unusedSimpArgs false
def impl_FactAdd.f (k : Nat) (l0 : List (S43)) (a1_0 : Int) (a1_1 : Int) (a1_2 : Int) (a1_3 : Int) (a1_4 : Int) (a1_5 : Int) : Option ((List (S43))) := if ([] : List (S43)).length + l0.length < 2932031007402 then ((some (([] : List (S43)) ++ l0 : List (S43))).bind fun y157 => ((impl_FactsOk.f k l0).bind fun t160 => (if t160 = true then (if (l0.length : Int) ≥ 2500 then (some y157) else ((impl_has.f k l0 a1_0 a1_1 a1_2 a1_3 a1_4 a1_5).bind fun t161 => (if t161 = true then (some y157) else ((impl_factAt.f k l0 a1_0 a1_1 a1_2 a1_3 a1_4 a1_5).bind fun t162 => (if 0 ≤ t162 then (if t162 ≤ (y157.length : Int) then ((some (y157.take (t162 : Int).toNat : List (S43))).bind fun y163 => (if y163.length < 2932031007402 then ((some (y163 ++ [(⟨a1_0, a1_1, a1_2, (⟨a1_3, a1_4, a1_5⟩ : S41)⟩ : S43)] : List (S43))).bind fun y166 => (if t162 ≤ (l0.length : Int) then ((some (l0.drop (t162 : Int).toNat : List (S43))).bind fun y169 => (if y166.length + y169.length < 2932031007402 then (some (y166 ++ y169)) else (none))) else (none))) else (none))) else (none)) else (none)))))) else (some y157)))) else (none)
theorem impl_FactAdd.mono : ∀ a0 a1 a2 a3 a4 a5 a6 k, LeO (impl_FactAdd.f k a0 a1 a2 a3 a4 a5 a6) (impl_FactAdd.f (k + 1) a0 a1 a2 a3 a4 a5 a6) := by
  intro a0 a1 a2 a3 a4 a5 a6 k
  unfold impl_FactAdd.f
  repeat' first
      | (with_reducible exact impl_FactsOk.mono _ _)
      | (with_reducible exact impl_factAt.mono _ _ _ _ _ _ _ _)
      | (with_reducible exact impl_has.mono _ _ _ _ _ _ _ _)
      | (with_reducible exact LeO.refl _)
      | (with_reducible exact LeO.none _)
      | (with_reducible refine LeO.ite ?_ ?_)
      | (with_reducible refine LeO.bind ?_ (fun _ => ?_))
      | exact LeO.none _
      | refine LeO.ite ?_ ?_
      | refine LeO.bind ?_ (fun _ => ?_)
def impl_FactAdd.T5 : Bool × List (List Nat × List Nat) := (true, [([], []), ([], []), ([], []), ([0, 1, 2], [0, 1, 2]), ([], []), ([4], [4]), ([3, 5], [3, 5]), ([], []), ([], []), ([7, 8], [7, 8]), ([6, 9, 6], [6, 9]), ([10, 10, 0, 1, 2, 3, 4, 5, 6, 7, 8, 9, 10], [10])])
def impl_FactAdd.B5 : List Nat := [0, 0, 0, 7, 0, 16, 63, 0, 0, 384, 1023, 2047]
theorem impl_FactAdd.tab5 : rtab .any (opsOf Try.f42 5) = impl_FactAdd.T5 := by kernel_rfl
theorem impl_FactAdd.bits5 : waitsOk impl_FactAdd.T5.2 impl_FactAdd.B5 = true := by kernel_rfl
set_option maxHeartbeats 8000000 in
set_option maxRecDepth 100000 in
theorem impl_FactAdd.calls (k : Nat) (A0 : Option Addr) (c0 : Nat) (l0 : List (S43)) (a1_0 : Int) (a1_1 : Int) (a1_2 : Int) (a1_3 : Int) (a1_4 : Int) (a1_5 : Int) (r : List (S43)) (w : World) (hr0 : Kd.C k43 w A0 l0.length l0) (hc0 : l0.length ≤ c0) (h : impl_FactAdd.f k l0 a1_0 a1_1 a1_2 a1_3 a1_4 a1_5 = some r) :
    Calls Try.prog 42 #[.slice A0 l0.length c0, .agg #[.int .i64 a1_0, .int .i64 a1_1, .int .i64 a1_2, .int .i64 a1_3, .int .i64 a1_4, .int .i64 a1_5]] w fun e w' => ∃ v0_ : Value, e = .returned (v0_) ∧ Kd.R k43 43 w' w.heap.size (fun _ => True) v0_ r ∧ Below w.heap.size w w' := by
  have hu43 := Try.underlying43
  have HR0 := Ad_.mk hr0
  have HC0 := Ad_.mk hc0
  clear hr0 hc0
  have HB := Ad_.mk (Below.refl w.heap.size w)
  have H := h
  unfold impl_FactAdd.f at H
  clear h
  by_cases c3 : ([] : List (S43)).length + l0.length < 2932031007402
  rotate_left
  ·
   rw [if_neg c3] at H
   exact absurd H (by simp)
  rw [if_pos c3] at H
  have LMc3 := Ad_.mk c3
  clear c3
  obtain ⟨y157, hy157⟩ : ∃ y_ : List (S43), y_ = (([] : List (S43)) ++ l0) := ⟨_, rfl⟩
  replace H : ((impl_FactsOk.f k l0).bind fun t160 => (if t160 = true then (if (l0.length : Int) ≥ 2500 then (some y157) else ((impl_has.f k l0 a1_0 a1_1 a1_2 a1_3 a1_4 a1_5).bind fun t161 => (if t161 = true then (some y157) else ((impl_factAt.f k l0 a1_0 a1_1 a1_2 a1_3 a1_4 a1_5).bind fun t162 => (if 0 ≤ t162 then (if t162 ≤ (y157.length : Int) then ((some (y157.take (t162 : Int).toNat : List (S43))).bind fun y163 => (if y163.length < 2932031007402 then ((some (y163 ++ [(⟨a1_0, a1_1, a1_2, (⟨a1_3, a1_4, a1_5⟩ : S41)⟩ : S43)] : List (S43))).bind fun y166 => (if t162 ≤ (l0.length : Int) then ((some (l0.drop (t162 : Int).toNat : List (S43))).bind fun y169 => (if y166.length + y169.length < 2932031007402 then (some (y166 ++ y169)) else (none))) else (none))) else (none))) else (none)) else (none)))))) else (some y157))) = some r := by first | (rw [hy157]; with_reducible exact H) | (have H2_ := (Option.bind_some _ _).symm.trans H; rw [hy157]; with_reducible exact H2_) | (have H2_ := (Option.bind_some _ _).symm.trans H; with_reducible exact H2_) | with_reducible exact H | (rw [hy157]; exact H) | exact H
  have Ny157 := Ad_.mk hy157
  clear hy157
  replace H := Option.bind_eq_some_iff.mp H
  obtain ⟨t160, A40, H⟩ := H
  try dsimp only at H
  have A4 := Ad_.mk A40
  clear A40
  by_cases c5 : t160 = true
  rotate_left
  ·
   replace c5 := Bool.eq_false_iff.mpr c5
   subst c5
   have H1 : (some y157) = some r := by rw [if_neg (show ¬ (false = true) by decide)] at H; exact H
   clear H
   have H := H1
   clear H1
   obtain rfl := Option.some.inj H
   go_enter Try.func42, Try.ntmps42
   go_wp2_with (first | ((with_reducible refine gD_ (N := 3) rfl ?_); (try (refine gate_guard (by rfl) ?_; dsimp only)); refine bE_ ?hg (N := 3) ?hd (cs := #[.int .i64 a1_0, .int .i64 a1_1, .int .i64 a1_2, .int .i64 a1_3, .int .i64 a1_4, .int .i64 a1_5]) (t := 43) ?hr ?_; (case hd => rfl); (case hg => rfl); (case hr => first | (go_simp; done) | (go_simp; rfl)); intro gb156 hg w37 hbox hb; have n0_ := Ad_.mk (bP_ (by repeat (with_reducible first | exact HB.out | apply bA_ | apply bN_ | apply b1_)) hb); have n1_ := Ad_.mk (hbox); have n2_ := Ad_.mk ((by rw [hg]; exact (bZ_ (by repeat (with_reducible first | exact HB.out | apply bA_ | apply bN_ | apply b1_))) : w.heap.size ≤ gb156)); have n3_ := Ad_.mk ((by rw [hg]; exact (bZ_ (by repeat (with_reducible first | exact HB.out | apply bA_ | apply bN_ | apply b1_))) : w.heap.size ≤ gb156)); clear HB; have HB := n0_; have BK156 := n1_; have GW156 := n2_; have GE156 := n3_; clear n0_ n1_ n2_ n3_; clear hb hbox hg) | ((with_reducible refine gB_ (b := .append) (xs := #[.const (.slice none 0 0), .tmp 7]) rfl ?_); (try (refine gate_guard (by rfl) ?_; dsimp only)); at_builtin; refine Kd.R_append_rows k43 (w0 := w) w.heap.size rfl (.const (.slice none 0 0)) (.tmp 7) 53 43 (.agg #[(.int .i64 0), (.int .i64 0), (.int .i64 0), (.int .i64 0), (.int .i64 0), (.int .i64 0)]) 48 rfl Try.underlying53 info43 rfl (by decide) (by omega) (.slice none 0 0) ([] : List (S43)) l0 _ _ _ (fun k_ => k_ ≠ gb156) (fun _ => False) rfl rfl ?aO ?aR (fun _ _ h => h) (fun _ h => h.elim) ?aF ?aB ?aS ?aL ?_; (case aR => repeat (first | exact (Kd.C_below HR0.out HB.out) | (with_reducible refine Kd.C_alloc ?_ _) | (with_reducible refine Kd.C_drewN ?_ _) | (with_reducible refine Kd.C_drew ?_))); (case aB => exact (by repeat (with_reducible first | exact HB.out | apply bA_ | apply bN_ | apply b1_ | refine bS_ ?_ GE156.out))); (case aF => exact (fun k_ hk => Kd.freshB (g := gb156) (o := .cells #[.int .i64 a1_0, .int .i64 a1_1, .int .i64 a1_2, .int .i64 a1_3, .int .i64 a1_4, .int .i64 a1_5] 43 (0, 0)) (by (with_reducible repeat (first | refine kN_ ?_ _ | refine k1_ ?_ | refine kA_ ?_ _)); exact BK156.out) k_ hk)); (case aO => exact ((Kd.R_nil _ _ _ _ (fun k_ => k_ ≠ gb156)))); (case aS => exact (bZ_ (by repeat (with_reducible first | exact HB.out | apply bA_ | apply bN_ | apply b1_ | refine bS_ ?_ GE156.out)))); (case aL => have := LMc3.out; omega); intro v158 w38 ho hb hg hat; rw [← Ny157.out] at ho; have n0_ := Ad_.mk (blk_grown (g := gb156) (o := .cells #[.int .i64 a1_0, .int .i64 a1_1, .int .i64 a1_2, .int .i64 a1_3, .int .i64 a1_4, .int .i64 a1_5] 43 (0, 0)) (by (with_reducible repeat (first | refine kN_ ?_ _ | refine k1_ ?_ | refine kA_ ?_ _)); exact BK156.out) hg (by simp [Value.ownBlock])); have n1_ := Ad_.mk (hb); have n2_ := Ad_.mk (ho); clear BK156; clear HB; have BK156 := n0_; have HB := n1_; have HO159 := n2_; clear n0_ n1_ n2_; clear ho hb hg hat) | ((with_reducible refine gC_ (f := 38) rfl ?_); refine gM_ (some 10) rfl rfl Try.func38 (by kernel_rfl) rfl #[.slice A0 l0.length c0] rfl ?_; (with_reducible refine (impl_FactsOk.calls k _ _ l0 false _ ?side1 ?side2 A4.out).mono ?_); (case side1 => repeat (first | exact (Kd.C_below HR0.out HB.out) | (with_reducible refine Kd.C_alloc ?_ _) | (with_reducible refine Kd.C_drewN ?_ _) | (with_reducible refine Kd.C_drew ?_))); (case side2 => exact HC0.out); rintro e w39 ⟨rfl, hb⟩; refine ⟨_, rfl, ?_⟩; have n0_ := Ad_.mk (Kd.R_below (by (with_reducible repeat (first | apply Kd.R_alloc | apply Kd.R_drewN | apply Kd.R_drew)); exact HO159.out) hb); have n1_ := Ad_.mk (blk_below (g := gb156) (o := .cells #[.int .i64 a1_0, .int .i64 a1_1, .int .i64 a1_2, .int .i64 a1_3, .int .i64 a1_4, .int .i64 a1_5] 43 (0, 0)) (by (with_reducible repeat (first | refine kN_ ?_ _ | refine k1_ ?_ | refine kA_ ?_ _)); exact BK156.out) hb); have n2_ := Ad_.mk (bP_ (by repeat (with_reducible first | exact HB.out | apply bA_ | apply bN_ | apply b1_ | refine bS_ ?_ GE156.out)) hb); clear HO159; clear BK156; clear HB; have HO159 := n0_; have BK156 := n1_; have HB := n2_; clear n0_ n1_ n2_; (try clear hb); (try clear hb2); (try clear hk); (try clear hi)))
   go_ret
   exact ⟨_, by first | rfl | (simp [errW_none, errW_some] <;> rfl) | (simp [*, errW_none, errW_some] <;> rfl), by (with_reducible repeat (first | apply Kd.R_alloc | apply Kd.R_drewN | apply Kd.R_drew)); exact Kd.R_mono HO159.out (fun _ hk => trivial), by repeat (with_reducible first | exact HB.out | apply bA_ | apply bN_ | apply b1_ | refine bS_ ?_ GE156.out)⟩
  subst c5
  have H1 := H
  rw [if_pos rfl] at H1
  clear H
  have H := H1
  clear H1
  by_cases c6 : (l0.length : Int) ≥ 2500
  ·
   rw [if_pos c6] at H
   have c6b0 := decide_eq_true c6
   have c6b1 : decide (2500 ≤ l0.length) = true := decide_eq_true (by omega)
   clear c6
   obtain rfl := Option.some.inj H
   go_enter Try.func42, Try.ntmps42
   go_wp2_with (first | ((with_reducible refine gD_ (N := 3) rfl ?_); (try (refine gate_guard (by rfl) ?_; dsimp only)); refine bE_ ?hg (N := 3) ?hd (cs := #[.int .i64 a1_0, .int .i64 a1_1, .int .i64 a1_2, .int .i64 a1_3, .int .i64 a1_4, .int .i64 a1_5]) (t := 43) ?hr ?_; (case hd => rfl); (case hg => rfl); (case hr => first | (go_simp; done) | (go_simp; rfl)); intro gb156 hg w7 hbox hb; have n0_ := Ad_.mk (bP_ (by repeat (with_reducible first | exact HB.out | apply bA_ | apply bN_ | apply b1_)) hb); have n1_ := Ad_.mk (hbox); have n2_ := Ad_.mk ((by rw [hg]; exact (bZ_ (by repeat (with_reducible first | exact HB.out | apply bA_ | apply bN_ | apply b1_))) : w.heap.size ≤ gb156)); have n3_ := Ad_.mk ((by rw [hg]; exact (bZ_ (by repeat (with_reducible first | exact HB.out | apply bA_ | apply bN_ | apply b1_))) : w.heap.size ≤ gb156)); clear HB; have HB := n0_; have BK156 := n1_; have GW156 := n2_; have GE156 := n3_; clear n0_ n1_ n2_ n3_; clear hb hbox hg) | ((with_reducible refine gB_ (b := .append) (xs := #[.const (.slice none 0 0), .tmp 7]) rfl ?_); (try (refine gate_guard (by rfl) ?_; dsimp only)); at_builtin; refine Kd.R_append_rows k43 (w0 := w) w.heap.size rfl (.const (.slice none 0 0)) (.tmp 7) 53 43 (.agg #[(.int .i64 0), (.int .i64 0), (.int .i64 0), (.int .i64 0), (.int .i64 0), (.int .i64 0)]) 48 rfl Try.underlying53 info43 rfl (by decide) (by omega) (.slice none 0 0) ([] : List (S43)) l0 _ _ _ (fun k_ => k_ ≠ gb156) (fun _ => False) rfl rfl ?aO ?aR (fun _ _ h => h) (fun _ h => h.elim) ?aF ?aB ?aS ?aL ?_; (case aR => repeat (first | exact (Kd.C_below HR0.out HB.out) | (with_reducible refine Kd.C_alloc ?_ _) | (with_reducible refine Kd.C_drewN ?_ _) | (with_reducible refine Kd.C_drew ?_))); (case aB => exact (by repeat (with_reducible first | exact HB.out | apply bA_ | apply bN_ | apply b1_ | refine bS_ ?_ GE156.out))); (case aF => exact (fun k_ hk => Kd.freshB (g := gb156) (o := .cells #[.int .i64 a1_0, .int .i64 a1_1, .int .i64 a1_2, .int .i64 a1_3, .int .i64 a1_4, .int .i64 a1_5] 43 (0, 0)) (by (with_reducible repeat (first | refine kN_ ?_ _ | refine k1_ ?_ | refine kA_ ?_ _)); exact BK156.out) k_ hk)); (case aO => exact ((Kd.R_nil _ _ _ _ (fun k_ => k_ ≠ gb156)))); (case aS => exact (bZ_ (by repeat (with_reducible first | exact HB.out | apply bA_ | apply bN_ | apply b1_ | refine bS_ ?_ GE156.out)))); (case aL => have := LMc3.out; omega); intro v158 w8 ho hb hg hat; rw [← Ny157.out] at ho; have n0_ := Ad_.mk (blk_grown (g := gb156) (o := .cells #[.int .i64 a1_0, .int .i64 a1_1, .int .i64 a1_2, .int .i64 a1_3, .int .i64 a1_4, .int .i64 a1_5] 43 (0, 0)) (by (with_reducible repeat (first | refine kN_ ?_ _ | refine k1_ ?_ | refine kA_ ?_ _)); exact BK156.out) hg (by simp [Value.ownBlock])); have n1_ := Ad_.mk (hb); have n2_ := Ad_.mk (ho); clear BK156; clear HB; have BK156 := n0_; have HB := n1_; have HO159 := n2_; clear n0_ n1_ n2_; clear ho hb hg hat) | ((with_reducible refine gC_ (f := 38) rfl ?_); refine gM_ (some 10) rfl rfl Try.func38 (by kernel_rfl) rfl #[.slice A0 l0.length c0] rfl ?_; (with_reducible refine (impl_FactsOk.calls k _ _ l0 true _ ?side1 ?side2 A4.out).mono ?_); (case side1 => repeat (first | exact (Kd.C_below HR0.out HB.out) | (with_reducible refine Kd.C_alloc ?_ _) | (with_reducible refine Kd.C_drewN ?_ _) | (with_reducible refine Kd.C_drew ?_))); (case side2 => exact HC0.out); rintro e w9 ⟨rfl, hb⟩; refine ⟨_, rfl, ?_⟩; have n0_ := Ad_.mk (Kd.R_below (by (with_reducible repeat (first | apply Kd.R_alloc | apply Kd.R_drewN | apply Kd.R_drew)); exact HO159.out) hb); have n1_ := Ad_.mk (blk_below (g := gb156) (o := .cells #[.int .i64 a1_0, .int .i64 a1_1, .int .i64 a1_2, .int .i64 a1_3, .int .i64 a1_4, .int .i64 a1_5] 43 (0, 0)) (by (with_reducible repeat (first | refine kN_ ?_ _ | refine k1_ ?_ | refine kA_ ?_ _)); exact BK156.out) hb); have n2_ := Ad_.mk (bP_ (by repeat (with_reducible first | exact HB.out | apply bA_ | apply bN_ | apply b1_ | refine bS_ ?_ GE156.out)) hb); clear HO159; clear BK156; clear HB; have HO159 := n0_; have BK156 := n1_; have HB := n2_; clear n0_ n1_ n2_; (try clear hb); (try clear hb2); (try clear hk); (try clear hi)))
   go_ret
   exact ⟨_, by first | rfl | (simp [errW_none, errW_some] <;> rfl) | (simp [*, errW_none, errW_some] <;> rfl), by (with_reducible repeat (first | apply Kd.R_alloc | apply Kd.R_drewN | apply Kd.R_drew)); exact Kd.R_mono HO159.out (fun _ hk => trivial), by repeat (with_reducible first | exact HB.out | apply bA_ | apply bN_ | apply b1_ | refine bS_ ?_ GE156.out)⟩
  rw [if_neg c6] at H
  have c6b0 := decide_eq_false c6
  have c6b1 : decide (2500 ≤ l0.length) = false := decide_eq_false (by omega)
  clear c6
  replace H := Option.bind_eq_some_iff.mp H
  obtain ⟨t161, A100, H⟩ := H
  try dsimp only at H
  have A10 := Ad_.mk A100
  clear A100
  by_cases c11 : t161 = true
  ·
   subst c11
   have H1 : (some y157) = some r := by rw [if_pos rfl] at H; exact H
   clear H
   have H := H1
   clear H1
   obtain rfl := Option.some.inj H
   go_enter Try.func42, Try.ntmps42
   go_wp2_with (first | ((with_reducible refine gD_ (N := 3) rfl ?_); (try (refine gate_guard (by rfl) ?_; dsimp only)); refine bE_ ?hg (N := 3) ?hd (cs := #[.int .i64 a1_0, .int .i64 a1_1, .int .i64 a1_2, .int .i64 a1_3, .int .i64 a1_4, .int .i64 a1_5]) (t := 43) ?hr ?_; (case hd => rfl); (case hg => rfl); (case hr => first | (go_simp; done) | (go_simp; rfl)); intro gb156 hg w12 hbox hb; have n0_ := Ad_.mk (bP_ (by repeat (with_reducible first | exact HB.out | apply bA_ | apply bN_ | apply b1_)) hb); have n1_ := Ad_.mk (hbox); have n2_ := Ad_.mk ((by rw [hg]; exact (bZ_ (by repeat (with_reducible first | exact HB.out | apply bA_ | apply bN_ | apply b1_))) : w.heap.size ≤ gb156)); have n3_ := Ad_.mk ((by rw [hg]; exact (bZ_ (by repeat (with_reducible first | exact HB.out | apply bA_ | apply bN_ | apply b1_))) : w.heap.size ≤ gb156)); clear HB; have HB := n0_; have BK156 := n1_; have GW156 := n2_; have GE156 := n3_; clear n0_ n1_ n2_ n3_; clear hb hbox hg) | ((with_reducible refine gB_ (b := .append) (xs := #[.const (.slice none 0 0), .tmp 7]) rfl ?_); (try (refine gate_guard (by rfl) ?_; dsimp only)); at_builtin; refine Kd.R_append_rows k43 (w0 := w) w.heap.size rfl (.const (.slice none 0 0)) (.tmp 7) 53 43 (.agg #[(.int .i64 0), (.int .i64 0), (.int .i64 0), (.int .i64 0), (.int .i64 0), (.int .i64 0)]) 48 rfl Try.underlying53 info43 rfl (by decide) (by omega) (.slice none 0 0) ([] : List (S43)) l0 _ _ _ (fun k_ => k_ ≠ gb156) (fun _ => False) rfl rfl ?aO ?aR (fun _ _ h => h) (fun _ h => h.elim) ?aF ?aB ?aS ?aL ?_; (case aR => repeat (first | exact (Kd.C_below HR0.out HB.out) | (with_reducible refine Kd.C_alloc ?_ _) | (with_reducible refine Kd.C_drewN ?_ _) | (with_reducible refine Kd.C_drew ?_))); (case aB => exact (by repeat (with_reducible first | exact HB.out | apply bA_ | apply bN_ | apply b1_ | refine bS_ ?_ GE156.out))); (case aF => exact (fun k_ hk => Kd.freshB (g := gb156) (o := .cells #[.int .i64 a1_0, .int .i64 a1_1, .int .i64 a1_2, .int .i64 a1_3, .int .i64 a1_4, .int .i64 a1_5] 43 (0, 0)) (by (with_reducible repeat (first | refine kN_ ?_ _ | refine k1_ ?_ | refine kA_ ?_ _)); exact BK156.out) k_ hk)); (case aO => exact ((Kd.R_nil _ _ _ _ (fun k_ => k_ ≠ gb156)))); (case aS => exact (bZ_ (by repeat (with_reducible first | exact HB.out | apply bA_ | apply bN_ | apply b1_ | refine bS_ ?_ GE156.out)))); (case aL => have := LMc3.out; omega); intro v158 w13 ho hb hg hat; rw [← Ny157.out] at ho; have n0_ := Ad_.mk (blk_grown (g := gb156) (o := .cells #[.int .i64 a1_0, .int .i64 a1_1, .int .i64 a1_2, .int .i64 a1_3, .int .i64 a1_4, .int .i64 a1_5] 43 (0, 0)) (by (with_reducible repeat (first | refine kN_ ?_ _ | refine k1_ ?_ | refine kA_ ?_ _)); exact BK156.out) hg (by simp [Value.ownBlock])); have n1_ := Ad_.mk (hb); have n2_ := Ad_.mk (ho); clear BK156; clear HB; have BK156 := n0_; have HB := n1_; have HO159 := n2_; clear n0_ n1_ n2_; clear ho hb hg hat) | ((with_reducible refine gC_ (f := 38) rfl ?_); refine gM_ (some 10) rfl rfl Try.func38 (by kernel_rfl) rfl #[.slice A0 l0.length c0] rfl ?_; (with_reducible refine (impl_FactsOk.calls k _ _ l0 true _ ?side1 ?side2 A4.out).mono ?_); (case side1 => repeat (first | exact (Kd.C_below HR0.out HB.out) | (with_reducible refine Kd.C_alloc ?_ _) | (with_reducible refine Kd.C_drewN ?_ _) | (with_reducible refine Kd.C_drew ?_))); (case side2 => exact HC0.out); rintro e w14 ⟨rfl, hb⟩; refine ⟨_, rfl, ?_⟩; have n0_ := Ad_.mk (Kd.R_below (by (with_reducible repeat (first | apply Kd.R_alloc | apply Kd.R_drewN | apply Kd.R_drew)); exact HO159.out) hb); have n1_ := Ad_.mk (blk_below (g := gb156) (o := .cells #[.int .i64 a1_0, .int .i64 a1_1, .int .i64 a1_2, .int .i64 a1_3, .int .i64 a1_4, .int .i64 a1_5] 43 (0, 0)) (by (with_reducible repeat (first | refine kN_ ?_ _ | refine k1_ ?_ | refine kA_ ?_ _)); exact BK156.out) hb); have n2_ := Ad_.mk (bP_ (by repeat (with_reducible first | exact HB.out | apply bA_ | apply bN_ | apply b1_ | refine bS_ ?_ GE156.out)) hb); clear HO159; clear BK156; clear HB; have HO159 := n0_; have BK156 := n1_; have HB := n2_; clear n0_ n1_ n2_; (try clear hb); (try clear hb2); (try clear hk); (try clear hi); obtain ⟨hcz15_0, hcz15_1, hcz15_2, hcz15_3, hcz15_4, hcz15_5⟩ := cells6_ BK156.out; obtain ⟨hfz15_0, hfz15_1, hfz15_2, hfz15_3, hfz15_4, hfz15_5⟩ := froz6_ BK156.out) | (go_at_call 62; (with_reducible refine (impl_has.calls k _ _ l0 a1_0 a1_1 a1_2 a1_3 a1_4 a1_5 true _ ?side1 ?side2 A10.out).mono ?_); (case side1 => repeat (first | exact (Kd.C_below HR0.out HB.out) | (with_reducible refine Kd.C_alloc ?_ _) | (with_reducible refine Kd.C_drewN ?_ _) | (with_reducible refine Kd.C_drew ?_))); (case side2 => exact HC0.out); rintro e w16 ⟨rfl, hb⟩; have n0_ := Ad_.mk (Kd.R_below (by (with_reducible repeat (first | apply Kd.R_alloc | apply Kd.R_drewN | apply Kd.R_drew)); exact HO159.out) hb); have n1_ := Ad_.mk (blk_below (g := gb156) (o := .cells #[.int .i64 a1_0, .int .i64 a1_1, .int .i64 a1_2, .int .i64 a1_3, .int .i64 a1_4, .int .i64 a1_5] 43 (0, 0)) (by (with_reducible repeat (first | refine kN_ ?_ _ | refine k1_ ?_ | refine kA_ ?_ _)); exact BK156.out) hb); have n2_ := Ad_.mk (bP_ (by repeat (with_reducible first | exact HB.out | apply bA_ | apply bN_ | apply b1_ | refine bS_ ?_ GE156.out)) hb); clear HO159; clear BK156; clear HB; have HO159 := n0_; have BK156 := n1_; have HB := n2_; clear n0_ n1_ n2_; (try clear hb); (try clear hb2); (try clear hk); (try clear hi)))
   go_ret
   exact ⟨_, by first | rfl | (simp [errW_none, errW_some] <;> rfl) | (simp [*, errW_none, errW_some] <;> rfl), by (with_reducible repeat (first | apply Kd.R_alloc | apply Kd.R_drewN | apply Kd.R_drew)); exact Kd.R_mono HO159.out (fun _ hk => trivial), by repeat (with_reducible first | exact HB.out | apply bA_ | apply bN_ | apply b1_ | refine bS_ ?_ GE156.out)⟩
  replace c11 := Bool.eq_false_iff.mpr c11
  subst c11
  have H1 : ((impl_factAt.f k l0 a1_0 a1_1 a1_2 a1_3 a1_4 a1_5).bind fun t162 => (if 0 ≤ t162 then (if t162 ≤ (y157.length : Int) then ((some (y157.take (t162 : Int).toNat : List (S43))).bind fun y163 => (if y163.length < 2932031007402 then ((some (y163 ++ [(⟨a1_0, a1_1, a1_2, (⟨a1_3, a1_4, a1_5⟩ : S41)⟩ : S43)] : List (S43))).bind fun y166 => (if t162 ≤ (l0.length : Int) then ((some (l0.drop (t162 : Int).toNat : List (S43))).bind fun y169 => (if y166.length + y169.length < 2932031007402 then (some (y166 ++ y169)) else (none))) else (none))) else (none))) else (none)) else (none))) = some r := by rw [if_neg (show ¬ (false = true) by decide)] at H; exact H
  clear H
  have H := H1
  clear H1
  replace H := Option.bind_eq_some_iff.mp H
  obtain ⟨t162, A170, H⟩ := H
  try dsimp only at H
  have A17 := Ad_.mk A170
  clear A170
  by_cases c18 : 0 ≤ t162
  rotate_left
  ·
   rw [if_neg c18] at H
   exact absurd H (by simp)
  rw [if_pos c18] at H
  have c18b0 := eq_true c18
  have c18b1 := decide_eq_true c18
  clear c18
  by_cases c19 : t162 ≤ (y157.length : Int)
  rotate_left
  ·
   rw [if_neg c19] at H
   exact absurd H (by simp)
  rw [if_pos c19] at H
  have c19b0 := eq_true c19
  have c19b1 := decide_eq_true c19
  clear c19
  obtain ⟨y163, hy163⟩ : ∃ y_ : List (S43), y_ = (y157.take (t162 : Int).toNat) := ⟨_, rfl⟩
  replace H : (if y163.length < 2932031007402 then ((some (y163 ++ [(⟨a1_0, a1_1, a1_2, (⟨a1_3, a1_4, a1_5⟩ : S41)⟩ : S43)] : List (S43))).bind fun y166 => (if t162 ≤ (l0.length : Int) then ((some (l0.drop (t162 : Int).toNat : List (S43))).bind fun y169 => (if y166.length + y169.length < 2932031007402 then (some (y166 ++ y169)) else (none))) else (none))) else (none)) = some r := by first | (rw [hy163]; with_reducible exact H) | (have H2_ := (Option.bind_some _ _).symm.trans H; rw [hy163]; with_reducible exact H2_) | (have H2_ := (Option.bind_some _ _).symm.trans H; with_reducible exact H2_) | with_reducible exact H | (rw [hy163]; exact H) | exact H
  have Ny163 := Ad_.mk hy163
  clear hy163
  by_cases c20 : y163.length < 2932031007402
  rotate_left
  ·
   rw [if_neg c20] at H
   exact absurd H (by simp)
  rw [if_pos c20] at H
  have LMc20 := Ad_.mk c20
  clear c20
  obtain ⟨y166, hy166⟩ : ∃ y_ : List (S43), y_ = (y163 ++ [(⟨a1_0, a1_1, a1_2, (⟨a1_3, a1_4, a1_5⟩ : S41)⟩ : S43)]) := ⟨_, rfl⟩
  replace H : (if t162 ≤ (l0.length : Int) then ((some (l0.drop (t162 : Int).toNat : List (S43))).bind fun y169 => (if y166.length + y169.length < 2932031007402 then (some (y166 ++ y169)) else (none))) else (none)) = some r := by first | (rw [hy166]; with_reducible exact H) | (have H2_ := (Option.bind_some _ _).symm.trans H; rw [hy166]; with_reducible exact H2_) | (have H2_ := (Option.bind_some _ _).symm.trans H; with_reducible exact H2_) | with_reducible exact H | (rw [hy166]; exact H) | exact H
  have Ny166 := Ad_.mk hy166
  clear hy166
  have c21b0 := eq_true (od_ : 0 ≤ t162)
  by_cases c22 : t162 ≤ (l0.length : Int)
  rotate_left
  ·
   rw [if_neg c22] at H
   exact absurd H (by simp)
  rw [if_pos c22] at H
  have c22b0 := eq_true c22
  have c22b1 := decide_eq_true c22
  clear c22
  obtain ⟨y169, hy169⟩ : ∃ y_ : List (S43), y_ = (l0.drop (t162 : Int).toNat) := ⟨_, rfl⟩
  replace H : (if y166.length + y169.length < 2932031007402 then (some (y166 ++ y169)) else (none)) = some r := by first | (rw [hy169]; with_reducible exact H) | (have H2_ := (Option.bind_some _ _).symm.trans H; rw [hy169]; with_reducible exact H2_) | (have H2_ := (Option.bind_some _ _).symm.trans H; with_reducible exact H2_) | with_reducible exact H | (rw [hy169]; exact H) | exact H
  have Ny169 := Ad_.mk hy169
  clear hy169
  by_cases c23 : y166.length + y169.length < 2932031007402
  rotate_left
  ·
   rw [if_neg c23] at H
   exact absurd H (by simp)
  rw [if_pos c23] at H
  have LMc23 := Ad_.mk c23
  clear c23
  obtain ⟨y173, hy173⟩ : ∃ y_ : List (S43), y_ = (y166 ++ y169) := ⟨_, rfl⟩
  replace H : (some y173) = some r := by first | (rw [hy173]; with_reducible exact H) | (have H2_ := (Option.bind_some _ _).symm.trans H; rw [hy173]; with_reducible exact H2_) | (have H2_ := (Option.bind_some _ _).symm.trans H; with_reducible exact H2_) | with_reducible exact H | (rw [hy173]; exact H) | exact H
  have Ny173 := Ad_.mk hy173
  clear hy173
  obtain rfl := Option.some.inj H
  go_enter Try.func42, Try.ntmps42
  try go_wp2_with (first | ((with_reducible refine gD_ (N := 3) rfl ?_); (try (refine gate_guard (by rfl) ?_; dsimp only)); refine bE_ ?hg (N := 3) ?hd (cs := #[.int .i64 a1_0, .int .i64 a1_1, .int .i64 a1_2, .int .i64 a1_3, .int .i64 a1_4, .int .i64 a1_5]) (t := 43) ?hr ?_; (case hd => rfl); (case hg => rfl); (case hr => first | (go_simp; done) | (go_simp; rfl)); intro gb156 hg w24 hbox hb; have n0_ := Ad_.mk (bP_ (by repeat (with_reducible first | exact HB.out | apply bA_ | apply bN_ | apply b1_)) hb); have n1_ := Ad_.mk (hbox); have n2_ := Ad_.mk ((by rw [hg]; exact (bZ_ (by repeat (with_reducible first | exact HB.out | apply bA_ | apply bN_ | apply b1_))) : w.heap.size ≤ gb156)); have n3_ := Ad_.mk ((by rw [hg]; exact (bZ_ (by repeat (with_reducible first | exact HB.out | apply bA_ | apply bN_ | apply b1_))) : w.heap.size ≤ gb156)); clear HB; have HB := n0_; have BK156 := n1_; have GW156 := n2_; have GE156 := n3_; clear n0_ n1_ n2_ n3_; clear hb hbox hg) | ((with_reducible refine gB_ (b := .append) (xs := #[.const (.slice none 0 0), .tmp 7]) rfl ?_); (try (refine gate_guard (by rfl) ?_; dsimp only)); at_builtin; refine Kd.R_append_rows k43 (w0 := w) w.heap.size rfl (.const (.slice none 0 0)) (.tmp 7) 53 43 (.agg #[(.int .i64 0), (.int .i64 0), (.int .i64 0), (.int .i64 0), (.int .i64 0), (.int .i64 0)]) 48 rfl Try.underlying53 info43 rfl (by decide) (by omega) (.slice none 0 0) ([] : List (S43)) l0 _ _ _ (fun k_ => k_ ≠ gb156) (fun _ => False) rfl rfl ?aO ?aR (fun _ _ h => h) (fun _ h => h.elim) ?aF ?aB ?aS ?aL ?_; (case aR => repeat (first | exact (Kd.C_below HR0.out HB.out) | (with_reducible refine Kd.C_alloc ?_ _) | (with_reducible refine Kd.C_drewN ?_ _) | (with_reducible refine Kd.C_drew ?_))); (case aB => exact (by repeat (with_reducible first | exact HB.out | apply bA_ | apply bN_ | apply b1_ | refine bS_ ?_ GE156.out))); (case aF => exact (fun k_ hk => Kd.freshB (g := gb156) (o := .cells #[.int .i64 a1_0, .int .i64 a1_1, .int .i64 a1_2, .int .i64 a1_3, .int .i64 a1_4, .int .i64 a1_5] 43 (0, 0)) (by (with_reducible repeat (first | refine kN_ ?_ _ | refine k1_ ?_ | refine kA_ ?_ _)); exact BK156.out) k_ hk)); (case aO => exact ((Kd.R_nil _ _ _ _ (fun k_ => k_ ≠ gb156)))); (case aS => exact (bZ_ (by repeat (with_reducible first | exact HB.out | apply bA_ | apply bN_ | apply b1_ | refine bS_ ?_ GE156.out)))); (case aL => have := LMc3.out; omega); intro v158 w25 ho hb hg hat; rw [← Ny157.out] at ho; have n0_ := Ad_.mk (blk_grown (g := gb156) (o := .cells #[.int .i64 a1_0, .int .i64 a1_1, .int .i64 a1_2, .int .i64 a1_3, .int .i64 a1_4, .int .i64 a1_5] 43 (0, 0)) (by (with_reducible repeat (first | refine kN_ ?_ _ | refine k1_ ?_ | refine kA_ ?_ _)); exact BK156.out) hg (by simp [Value.ownBlock])); have n1_ := Ad_.mk (hb); have n2_ := Ad_.mk (ho); clear BK156; clear HB; have BK156 := n0_; have HB := n1_; have HO159 := n2_; clear n0_ n1_ n2_; clear ho hb hg hat) | ((with_reducible refine gC_ (f := 38) rfl ?_); refine gM_ (some 10) rfl rfl Try.func38 (by kernel_rfl) rfl #[.slice A0 l0.length c0] rfl ?_; (with_reducible refine (impl_FactsOk.calls k _ _ l0 true _ ?side1 ?side2 A4.out).mono ?_); (case side1 => repeat (first | exact (Kd.C_below HR0.out HB.out) | (with_reducible refine Kd.C_alloc ?_ _) | (with_reducible refine Kd.C_drewN ?_ _) | (with_reducible refine Kd.C_drew ?_))); (case side2 => exact HC0.out); rintro e w26 ⟨rfl, hb⟩; refine ⟨_, rfl, ?_⟩; have n0_ := Ad_.mk (Kd.R_below (by (with_reducible repeat (first | apply Kd.R_alloc | apply Kd.R_drewN | apply Kd.R_drew)); exact HO159.out) hb); have n1_ := Ad_.mk (blk_below (g := gb156) (o := .cells #[.int .i64 a1_0, .int .i64 a1_1, .int .i64 a1_2, .int .i64 a1_3, .int .i64 a1_4, .int .i64 a1_5] 43 (0, 0)) (by (with_reducible repeat (first | refine kN_ ?_ _ | refine k1_ ?_ | refine kA_ ?_ _)); exact BK156.out) hb); have n2_ := Ad_.mk (bP_ (by repeat (with_reducible first | exact HB.out | apply bA_ | apply bN_ | apply b1_ | refine bS_ ?_ GE156.out)) hb); clear HO159; clear BK156; clear HB; have HO159 := n0_; have BK156 := n1_; have HB := n2_; clear n0_ n1_ n2_; (try clear hb); (try clear hb2); (try clear hk); (try clear hi); obtain ⟨hcz27_0, hcz27_1, hcz27_2, hcz27_3, hcz27_4, hcz27_5⟩ := cells6_ BK156.out; obtain ⟨hfz27_0, hfz27_1, hfz27_2, hfz27_3, hfz27_4, hfz27_5⟩ := froz6_ BK156.out) | (go_at_call 62; (with_reducible refine (impl_has.calls k _ _ l0 a1_0 a1_1 a1_2 a1_3 a1_4 a1_5 false _ ?side1 ?side2 A10.out).mono ?_); (case side1 => repeat (first | exact (Kd.C_below HR0.out HB.out) | (with_reducible refine Kd.C_alloc ?_ _) | (with_reducible refine Kd.C_drewN ?_ _) | (with_reducible refine Kd.C_drew ?_))); (case side2 => exact HC0.out); rintro e w28 ⟨rfl, hb⟩; have n0_ := Ad_.mk (Kd.R_below (by (with_reducible repeat (first | apply Kd.R_alloc | apply Kd.R_drewN | apply Kd.R_drew)); exact HO159.out) hb); have n1_ := Ad_.mk (blk_below (g := gb156) (o := .cells #[.int .i64 a1_0, .int .i64 a1_1, .int .i64 a1_2, .int .i64 a1_3, .int .i64 a1_4, .int .i64 a1_5] 43 (0, 0)) (by (with_reducible repeat (first | refine kN_ ?_ _ | refine k1_ ?_ | refine kA_ ?_ _)); exact BK156.out) hb); have n2_ := Ad_.mk (bP_ (by repeat (with_reducible first | exact HB.out | apply bA_ | apply bN_ | apply b1_ | refine bS_ ?_ GE156.out)) hb); clear HO159; clear BK156; clear HB; have HO159 := n0_; have BK156 := n1_; have HB := n2_; clear n0_ n1_ n2_; (try clear hb); (try clear hb2); (try clear hk); (try clear hi); obtain ⟨hcz29_0, hcz29_1, hcz29_2, hcz29_3, hcz29_4, hcz29_5⟩ := cells6_ BK156.out; obtain ⟨hfz29_0, hfz29_1, hfz29_2, hfz29_3, hfz29_4, hfz29_5⟩ := froz6_ BK156.out) | ((with_reducible refine gC_ (f := 65) rfl ?_); refine gM_ (some 25) rfl rfl Try.func65 (by kernel_rfl) rfl #[.slice A0 l0.length c0, .agg #[.int .i64 a1_0, .int .i64 a1_1, .int .i64 a1_2, .int .i64 a1_3, .int .i64 a1_4, .int .i64 a1_5]] rfl ?_; (with_reducible refine (impl_factAt.calls k _ _ l0 a1_0 a1_1 a1_2 a1_3 a1_4 a1_5 t162 _ ?side1 ?side2 A17.out).mono ?_); (case side1 => repeat (first | exact (Kd.C_below HR0.out HB.out) | (with_reducible refine Kd.C_alloc ?_ _) | (with_reducible refine Kd.C_drewN ?_ _) | (with_reducible refine Kd.C_drew ?_))); (case side2 => exact HC0.out); rintro e w30 ⟨rfl, hb⟩; refine ⟨_, rfl, ?_⟩; have n0_ := Ad_.mk (Kd.R_below (by (with_reducible repeat (first | apply Kd.R_alloc | apply Kd.R_drewN | apply Kd.R_drew)); exact HO159.out) hb); have n1_ := Ad_.mk (blk_below (g := gb156) (o := .cells #[.int .i64 a1_0, .int .i64 a1_1, .int .i64 a1_2, .int .i64 a1_3, .int .i64 a1_4, .int .i64 a1_5] 43 (0, 0)) (by (with_reducible repeat (first | refine kN_ ?_ _ | refine k1_ ?_ | refine kA_ ?_ _)); exact BK156.out) hb); have n2_ := Ad_.mk (bP_ (by repeat (with_reducible first | exact HB.out | apply bA_ | apply bN_ | apply b1_ | refine bS_ ?_ GE156.out)) hb); clear HO159; clear BK156; clear HB; have HO159 := n0_; have BK156 := n1_; have HB := n2_; clear n0_ n1_ n2_; (try clear hb); (try clear hb2); (try clear hk); (try clear hi)))
  have n0_ := Ad_.mk (Kd.R_drew HO159.out)
  have n1_ := Ad_.mk (k1_ BK156.out)
  have n2_ := Ad_.mk (b1_ HB.out)
  clear HO159
  clear BK156
  clear HB
  have HO159 := n0_
  have BK156 := n1_
  have HB := n2_
  clear n0_ n1_ n2_
  obtain ⟨Ao32, co32, eo32⟩ := Kd.R_slice HO159.out
  (first | subst eo32 | (injection eo32 with f1_ f2_ f3_; have f4_ := f1_.symm; have f5_ := f3_.symm; clear f1_ f2_ f3_; subst f4_; subst f5_))
  have q33 : (t162 : Int) ≤ ((y157.length : Int) : Int) := od_
  obtain ⟨i033, hi033, _, hsz33, _⟩ := info_parts info43
  have hcut33 := cut_to_max (P := Try.prog) 53 43 .i64 .i64 Try.underlying53 hi033 Ao32 y157.length co32 t162 t162 (od_) (Int.le_refl _) q33 (Kd.R_reads' HO159.out).2.1
  have hr33 := Kd.R_take (m := (t162 : Int).toNat) HO159.out (by omega)
  have hy33 : y163.length = (t162 : Int).toNat := (by rw [Ny163.out, List.length_take]; omega)
  rw [← Ny163.out] at hr33
  rw [← hy33] at hr33 hcut33
  clear hy33 hi033 hsz33 HO159
  have HO165 := Ad_.mk hr33
  clear hr33
  replace q33 := eq_true q33
  have q34 : (t162 : Int) ≤ ((l0.length : Int) : Int) := od_
  obtain ⟨i034, hi034, _, hsz34, _⟩ := info_parts info43
  have hroom34 : l0.length ≤ c0 := HC0.out
  have hC34 : Kd.C k43 _ A0 l0.length l0 := HR0.out
  have q034 : (0 : Int) ≤ (t162 : Int) := od_
  have hcut34 := cut_from (P := Try.prog) 53 43 .i64 Try.underlying53 hi034 6 hsz34 A0 l0.length c0 t162 q034 q34
  have hr34 := Kd.C_drop (m := (t162 : Int).toNat) (c := c0) hC34 (by omega) hroom34
  obtain ⟨A34, hA34⟩ : ∃ A1, A1 = (if c0 = (t162 : Int).toNat then A0 else (A0 : Option Addr).map (·.add ((t162 : Int).toNat * 6))) := ⟨_, rfl⟩
  obtain ⟨c34, hc34⟩ : ∃ c1, c1 = c0 - (t162 : Int).toNat := ⟨_, rfl⟩
  have hy34 : y169.length = l0.length - (t162 : Int).toNat := (by rw [Ny169.out, List.length_drop] <;> omega)
  rw [show (l0).drop (t162 : Int).toNat = y169 from Ny169.out.symm] at hr34
  replace hr34 : Kd.C k43 _ A34 y169.length y169 := (by rw [hA34]; exact hr34)
  rw [← hy34, ← hA34, ← hc34] at hcut34
  have HR172 := Ad_.mk hr34
  have HC172 := Ad_.mk (show y169.length ≤ c34 from by rw [hy34, hc34]; exact Nat.sub_le_sub_right hroom34 _)
  clear hr34 hC34 hroom34 hi034 hsz34 hc34
  have KY34 := Ad_.mk hy34
  have KA34 := Ad_.mk hA34
  clear hy34 hA34
  replace q34 := eq_true q34
  refine start_ (n := 12) (S := fun w' => w'.cell? ⟨gb156, 0, none⟩ = some (.int .i64 a1_0) ∧ w'.cell? ⟨gb156, 1, none⟩ = some (.int .i64 a1_1) ∧ w'.cell? ⟨gb156, 2, none⟩ = some (.int .i64 a1_2) ∧ w'.cell? ⟨gb156, 3, none⟩ = some (.int .i64 a1_3) ∧ w'.cell? ⟨gb156, 4, none⟩ = some (.int .i64 a1_4) ∧ w'.cell? ⟨gb156, 5, none⟩ = some (.int .i64 a1_5)) (ds := []) #[fb_,fb_,fb_,fb_,fb_,fb_,fb_,fb_,fb_,fb_,fb_,fb_] (by kernel_rfl) rfl rfl ⟨(kC_ BK156.out 0).trans rfl, (kC_ BK156.out 1).trans rfl, (kC_ BK156.out 2).trans rfl, (kC_ BK156.out 3).trans rfl, (kC_ BK156.out 4).trans rfl, (kC_ BK156.out 5).trans rfl⟩ (fun hHeld => ?_); refine with_tabW impl_FactAdd.tab5 impl_FactAdd.bits5 (fun HT_ HW_ => ?_)
  generalize w30.drew = w31 at BK156 HB HO165 HR172 hHeld ⊢
  refine pu_ (i := 0) (N := some 26) #[tb_,fb_,fb_,fb_,fb_,fb_,fb_,fb_,fb_,fb_,fb_,fb_] (any_of HT_.out (by kernel_rfl)) ?_
  refine pu_ (i := 1) (N := some 27) #[tb_,tb_,fb_,fb_,fb_,fb_,fb_,fb_,fb_,fb_,fb_,fb_] (any_of HT_.out (by kernel_rfl)) ?_
  refine pu_ (i := 2) (N := some 28) #[tb_,tb_,tb_,fb_,fb_,fb_,fb_,fb_,fb_,fb_,fb_,fb_] (any_of HT_.out (by kernel_rfl)) ?_
  refine pu_ (i := 3) (N := some 29) #[tb_,tb_,tb_,tb_,fb_,fb_,fb_,fb_,fb_,fb_,fb_,fb_] (any_of HT_.out (by kernel_rfl)) ?_
  refine pu_ (i := 7) (N := some 33) #[tb_,tb_,tb_,tb_,fb_,fb_,fb_,tb_,fb_,fb_,fb_,fb_] (any_of HT_.out (by kernel_rfl)) ?_
  refine pu_ (i := 8) (N := some 34) #[tb_,tb_,tb_,tb_,fb_,fb_,fb_,tb_,tb_,fb_,fb_,fb_] (any_of HT_.out (by kernel_rfl)) ?_
  refine pu_ (i := 9) (N := some 35) #[tb_,tb_,tb_,tb_,fb_,fb_,fb_,tb_,tb_,tb_,fb_,fb_] (any_of HT_.out (by kernel_rfl)) ?_
  refine take_ (i := 4) (N := some 30) (v := ?_) (a' := ?_) #[tb_,tb_,tb_,tb_,tb_,fb_,fb_,tb_,tb_,tb_,fb_,fb_] rfl rfl (take_ofW HT_.out HW_.out (by kernel_rfl)) (fun _ _ _ h => h) (Or.inl ⟨by rfl, ?_⟩) hHeld ?_ ?_
  rotate_left
  ·
   rintro w' ⟨s0, s1, s2, s3, s4, s5⟩
   go_simp
   with_reducible rfl
  rotate_left
  ·
   simp only [Act.put, List.setIfInBounds_toArray, List.set_cons_zero, List.set_cons_succ, i64_w, i32_w]
   rfl
  refine one_ (i := 5) (N := some 31) #[tb_,tb_,tb_,tb_,tb_,tb_,fb_,tb_,tb_,tb_,fb_,fb_] rfl rfl (one_of HT_.out (by kernel_rfl)) (by decide) (fun K hK => ?_)
  refine value_ (w1 := ?_) (v := ?_) (by rfl) rfl ?_ ?_
  rotate_left 2
  ·
   go_simp
   constructor
   · rfl
   rfl
  refine hK.out _ _ ⟨(kC_ (kA_ BK156.out _) 0).trans rfl, (kC_ (kA_ BK156.out _) 1).trans rfl, (kC_ (kA_ BK156.out _) 2).trans rfl, (kC_ (kA_ BK156.out _) 3).trans rfl, (kC_ (kA_ BK156.out _) 4).trans rfl, (kC_ (kA_ BK156.out _) 5).trans rfl⟩ (fun hHeld => ?_)
  clear hK K
  refine norm_ (a' := ?_) ?_ ?_
  rotate_left
  ·
   show Act.put _ (some 31) _ = _
   simp only [Act.put, List.setIfInBounds_toArray, List.set_cons_zero, List.set_cons_succ, i64_w, i32_w]
   rfl
  refine one_ (i := 6) (N := some 32) #[tb_,tb_,tb_,tb_,tb_,tb_,tb_,tb_,tb_,tb_,fb_,fb_] rfl rfl (one_of HT_.out (by kernel_rfl)) (by decide) (fun K hK => ?_)
  refine R_append_full_step k43 (w0 := w) w.heap.size (by rfl) (.tmp 29) (.tmp 31) 53 43 (.agg #[(.int .i64 0), (.int .i64 0), (.int .i64 0), (.int .i64 0), (.int .i64 0), (.int .i64 0)]) 48 rfl Try.underlying53 info43 rfl (by decide) (by omega) (.slice Ao32 y163.length co32) y163 (⟨a1_0, a1_1, a1_2, (⟨a1_3, a1_4, a1_5⟩ : S41)⟩ : S43) [.int .i64 a1_0, .int .i64 a1_1, .int .i64 a1_2, .int .i64 a1_3, .int .i64 a1_4, .int .i64 a1_5] (fun k_ => k_ ≠ gb156) (fun _ => False) rfl rfl ?aP (fun _ hk => hk.elim) ?aF ?aO ?aB ?aS ?aL ?_
  (case aP => exact k43_mkM _ _ _ (⟨a1_0, a1_1, a1_2, (⟨a1_3, a1_4, a1_5⟩ : S41)⟩ : S43))
  (case aB => exact (by repeat (with_reducible first | exact HB.out | apply bA_ | apply bN_ | apply b1_ | refine bS_ ?_ GE156.out)))
  (case aF => exact (fun k_ hk => Kd.freshB (g := gb156) (o := .cells #[.int .i64 a1_0, .int .i64 a1_1, .int .i64 a1_2, .int .i64 a1_3, .int .i64 a1_4, .int .i64 a1_5] 43 (0, 0)) (by (with_reducible repeat (first | refine kN_ ?_ _ | refine k1_ ?_ | refine kA_ ?_ _)); exact BK156.out) k_ hk))
  (case aO => exact (by (with_reducible repeat (first | apply Kd.R_alloc | apply Kd.R_drewN | apply Kd.R_drew)); exact HO165.out))
  (case aS => exact (bZ_ (by repeat (with_reducible first | exact HB.out | apply bA_ | apply bN_ | apply b1_ | refine bS_ ?_ GE156.out))))
  (case aL => have := LMc20.out; omega)
  intro v167 w35 ho hb hg hat
  rw [← Ny166.out] at ho
  have n0_ := Ad_.mk (blk_grown (g := gb156) (o := .cells #[.int .i64 a1_0, .int .i64 a1_1, .int .i64 a1_2, .int .i64 a1_3, .int .i64 a1_4, .int .i64 a1_5] 43 (0, 0)) (by (with_reducible repeat (first | refine kN_ ?_ _ | refine k1_ ?_ | refine kA_ ?_ _)); exact BK156.out) hg (Kd.R_away HO165.out (fun _ hk => hk)))
  have n1_ := Ad_.mk (hb)
  have n2_ := Ad_.mk (ho)
  clear BK156
  clear HB
  clear HO165
  have BK156 := n0_
  have HB := n1_
  have HO168 := n2_
  clear n0_ n1_ n2_
  clear ho hb hg hat
  refine hK.out _ _ ⟨(kC_ BK156.out 0).trans rfl, (kC_ BK156.out 1).trans rfl, (kC_ BK156.out 2).trans rfl, (kC_ BK156.out 3).trans rfl, (kC_ BK156.out 4).trans rfl, (kC_ BK156.out 5).trans rfl⟩ (fun hHeld => ?_)
  clear hK K
  refine norm_ (a' := ?_) ?_ ?_
  rotate_left
  ·
   show Act.put _ (some 32) _ = _
   simp only [Act.put, List.setIfInBounds_toArray, List.set_cons_zero, List.set_cons_succ, i64_w, i32_w]
   rfl
  refine one_ (i := 10) (N := some 36) #[tb_,tb_,tb_,tb_,tb_,tb_,tb_,tb_,tb_,tb_,tb_,fb_] rfl rfl (one_of HT_.out (by kernel_rfl)) (by decide) (fun K hK => ?_)
  refine Kd.R_append_rows_step k43 (w0 := w) w.heap.size (by rfl) (.tmp 32) (.tmp 35) 53 43 (.agg #[(.int .i64 0), (.int .i64 0), (.int .i64 0), (.int .i64 0), (.int .i64 0), (.int .i64 0)]) 48 rfl Try.underlying53 info43 rfl (by decide) (by omega) v167 y166 y169 _ _ _ (fun k_ => k_ ≠ gb156) (fun _ => False) rfl rfl ?aO ?aR (fun _ _ h => h) (fun _ h => h.elim) ?aF ?aB ?aS ?aL ?_
  (case aR => repeat (first | exact (Kd.C_below HR172.out HB.out) | (with_reducible refine Kd.C_alloc ?_ _) | (with_reducible refine Kd.C_drewN ?_ _) | (with_reducible refine Kd.C_drew ?_)))
  (case aB => exact (by repeat (with_reducible first | exact HB.out | apply bA_ | apply bN_ | apply b1_ | refine bS_ ?_ GE156.out)))
  (case aF => exact (fun k_ hk => Kd.freshB (g := gb156) (o := .cells #[.int .i64 a1_0, .int .i64 a1_1, .int .i64 a1_2, .int .i64 a1_3, .int .i64 a1_4, .int .i64 a1_5] 43 (0, 0)) (by (with_reducible repeat (first | refine kN_ ?_ _ | refine k1_ ?_ | refine kA_ ?_ _)); exact BK156.out) k_ hk))
  (case aO => exact (by (with_reducible repeat (first | apply Kd.R_alloc | apply Kd.R_drewN | apply Kd.R_drew)); exact HO168.out))
  (case aS => exact (bZ_ (by repeat (with_reducible first | exact HB.out | apply bA_ | apply bN_ | apply b1_ | refine bS_ ?_ GE156.out))))
  (case aL => have := LMc23.out; omega)
  intro v174 w36 ho hb hg hat
  rw [← Ny173.out] at ho
  have n0_ := Ad_.mk (blk_grown (g := gb156) (o := .cells #[.int .i64 a1_0, .int .i64 a1_1, .int .i64 a1_2, .int .i64 a1_3, .int .i64 a1_4, .int .i64 a1_5] 43 (0, 0)) (by (with_reducible repeat (first | refine kN_ ?_ _ | refine k1_ ?_ | refine kA_ ?_ _)); exact BK156.out) hg (Kd.R_away HO168.out (fun _ hk => hk)))
  have n1_ := Ad_.mk (hb)
  have n2_ := Ad_.mk (ho)
  clear BK156
  clear HB
  clear HO168
  have BK156 := n0_
  have HB := n1_
  have HO175 := n2_
  clear n0_ n1_ n2_
  clear ho hb hg hat
  refine hK.out _ _ ⟨(kC_ BK156.out 0).trans rfl, (kC_ BK156.out 1).trans rfl, (kC_ BK156.out 2).trans rfl, (kC_ BK156.out 3).trans rfl, (kC_ BK156.out 4).trans rfl, (kC_ BK156.out 5).trans rfl⟩ (fun hHeld => ?_)
  clear hK K
  refine norm_ (a' := ?_) ?_ ?_
  rotate_left
  ·
   show Act.put _ (some 36) _ = _
   simp only [Act.put, List.setIfInBounds_toArray, List.set_cons_zero, List.set_cons_succ, i64_w, i32_w]
   rfl
  refine pu_ (i := 11) (N := some 4) #[tb_,tb_,tb_,tb_,tb_,tb_,tb_,tb_,tb_,tb_,tb_,tb_] (any_of HT_.out (by kernel_rfl)) ?_
  refine done_ (done_of HT_.out (by kernel_rfl)) ?_
  try go_wp2
  go_ret
  exact ⟨_, by first | rfl | (simp [errW_none, errW_some] <;> rfl) | (simp [*, errW_none, errW_some] <;> rfl), by (with_reducible repeat (first | apply Kd.R_alloc | apply Kd.R_drewN | apply Kd.R_drew)); exact Kd.R_mono HO175.out (fun _ hk => trivial), by repeat (with_reducible first | exact HB.out | apply bA_ | apply bN_ | apply b1_ | refine bS_ ?_ GE156.out)⟩
end Go.Proofs.Ytdjomoogldkpfaa.PAll
end
