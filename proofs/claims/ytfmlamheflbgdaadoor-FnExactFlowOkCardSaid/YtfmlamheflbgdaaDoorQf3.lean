/- For each function of the Go program that is named here: its Lean function, and that Go comes to just its answer. Written by a program of the session out of the translation. -/
import Derived.Test.YtfmlamheflbgdaaDoorQf0
import Derived.Test.YtfmlamheflbgdaaDoorQf2
import Derived.Sort.Walk0
import Derived.Laws.Strings
import Derived.Test.YtfmlamheflbgdaaDoorVaf0
import Derived.Shelf.Sort.Plain
import Derived.Shelf.Slices.In.SortNone2
import Derived.Test.YtfmlamheflbgdaaDoorProg
section
namespace Go.Proofs.YtfmlamheflbgdaaDoor.PAll
open Go.RowKit Go.Proofs.YtfmlamheflbgdaaDoorW.PrintWords Go.Proofs.YtfmlamheflbgdaaDoorW.PrintLast Go.Proofs.YtfmlamheflbgdaaDoorW.PrintMore
attribute [local go_sem] max2_int min2_int max_two min_two max_three min_three max_four min_four
set_option linter.unusedVariables false
set_option linter.unusedSimpArgs false
def spec_l6Bound.j0 : Nat → Int → Int → Bool → Int → Int → Int → Int → Int → ByteArray → ByteArray → Option (List ByteArray × List Int)
  | 0, _, _, _, _, _, _, _, _, _, _ => none
  | k + 1, x1, x7, x14, x687000, x687001, x687002, x687003, x687004, x687005, x687006 => if x14 = true then (if x1 = x687002 then (some ((([x687005] : List ByteArray)), (([0] : List Int)))) else (some ((([] : List ByteArray)), (([] : List Int))))) else (if x7 = 6 then (if x1 = x687001 then (some ((([x687006, x687005] : List ByteArray)), (([1, 0] : List Int)))) else (some ((([x687005] : List ByteArray)), (([0] : List Int))))) else (if x7 = 14 then (if x1 = x687003 then (some ((([x687006, x687005] : List ByteArray)), (([1, 0] : List Int)))) else (some ((([] : List ByteArray)), (([] : List Int))))) else (some ((([] : List ByteArray)), (([] : List Int))))))
def spec_l6Bound.f (k : Nat) (a0_0 : Int) (a0_1 : Int) (a0_2 : Int) (a0_3 : Int) (a0_4 : Int) (a0_5 : ByteArray) (a0_6 : ByteArray) (a1 : Int) : Option (List ByteArray × List Int) := if a0_0 = 3 then (some ((([a0_5] : List ByteArray)), (([0] : List Int)))) else (if a0_0 = 5 then (spec_l6Bound.j0 k a1 a0_0 (a0_0 == 5) a0_0 a0_1 a0_2 a0_3 a0_4 a0_5 a0_6) else (spec_l6Bound.j0 k a1 a0_0 (a0_0 == 19) a0_0 a0_1 a0_2 a0_3 a0_4 a0_5 a0_6))
theorem spec_l6Bound.mono_l : ∀ k, (∀ y0 y1 y2 y3 y4 y5 y6 y7 y8 y9, LeO (spec_l6Bound.j0 k y0 y1 y2 y3 y4 y5 y6 y7 y8 y9) (spec_l6Bound.j0 (k + 1) y0 y1 y2 y3 y4 y5 y6 y7 y8 y9))
  | 0 => fun _ _ _ _ _ _ _ _ _ _ r h => by simp [spec_l6Bound.j0] at h
  | k + 1 => by
    have ih0 := spec_l6Bound.mono_l k
    · intro y0 y1 y2 y3 y4 y5 y6 y7 y8 y9
      unfold spec_l6Bound.j0
      repeat' first
      | (with_reducible exact ih0 _ _ _ _ _ _ _ _ _ _)
      | (with_reducible exact LeO.refl _)
      | (with_reducible exact LeO.none _)
      | (with_reducible refine LeO.ite ?_ ?_)
      | (with_reducible refine LeO.bind ?_ (fun _ => ?_))
      | exact LeO.none _
      | refine LeO.ite ?_ ?_
      | refine LeO.bind ?_ (fun _ => ?_)
theorem spec_l6Bound.mono : ∀ a0 a1 a2 a3 a4 a5 a6 a7 k, LeO (spec_l6Bound.f k a0 a1 a2 a3 a4 a5 a6 a7) (spec_l6Bound.f (k + 1) a0 a1 a2 a3 a4 a5 a6 a7) := by
  intro a0 a1 a2 a3 a4 a5 a6 a7 k
  have ih0 := spec_l6Bound.mono_l k
  unfold spec_l6Bound.f
  repeat' first
      | (with_reducible exact ih0 _ _ _ _ _ _ _ _ _ _)
      | (with_reducible exact LeO.refl _)
      | (with_reducible exact LeO.none _)
      | (with_reducible refine LeO.ite ?_ ?_)
      | (with_reducible refine LeO.bind ?_ (fun _ => ?_))
      | exact LeO.none _
      | refine LeO.ite ?_ ?_
      | refine LeO.bind ?_ (fun _ => ?_)
set_option maxHeartbeats 8000000 in
set_option maxRecDepth 100000 in
theorem spec_l6Bound.calls (k : Nat) (a0_0 : Int) (a0_1 : Int) (a0_2 : Int) (a0_3 : Int) (a0_4 : Int) (a0_5 : ByteArray) (a0_6 : ByteArray) (a1 : Int) (r1 : List ByteArray) (r2 : List Int) (w : World) (h : spec_l6Bound.f k a0_0 a0_1 a0_2 a0_3 a0_4 a0_5 a0_6 a1 = some (r1, r2)) :
    Calls Tryd.prog 108 #[.agg #[.int .i64 a0_0, .int .i64 a0_1, .int .i64 a0_2, .int .i64 a0_3, .int .i64 a0_4, .string a0_5, .string a0_6], .int .i64 a1] w fun e w' => ∃ v0_ v1_ : Value, e = .returned (.tuple #[v0_, v1_]) ∧ Kd.R Kd.string 9 w' w.heap.size (fun _ => True) v0_ r1 ∧ Kd.R (Kd.int .i64) 3 w' w.heap.size (fun _ => True) v1_ r2 ∧ Below w.heap.size w w' := by
  have hu55 := Tryd.underlying55
  have HB := Ad_.mk (Below.refl w.heap.size w)
  have H := h
  unfold spec_l6Bound.f at H
  clear h
  by_cases c3 : a0_0 = 3
  ·
   rw [if_pos c3] at H
   have c3b0 : (a0_0 == 3) = true := beq_iff_eq.mpr c3
   have c3b1 : (a0_0 != 3) = false := bne_eq_false_iff_eq.mpr c3
   clear c3
   obtain ⟨y687, hy687⟩ : ∃ y_ : List ByteArray, y_ = (([a0_5] : List ByteArray)) := ⟨_, rfl⟩
   replace H : (some (y687, (([0] : List Int)))) = some (r1, r2) := by first | (rw [hy687]; with_reducible exact H) | (have H2_ := (Option.bind_some _ _).symm.trans H; rw [hy687]; with_reducible exact H2_) | (have H2_ := (Option.bind_some _ _).symm.trans H; with_reducible exact H2_) | with_reducible exact H | (rw [hy687]; exact H) | exact H
   have Ny687 := Ad_.mk hy687
   clear hy687
   obtain ⟨y690, hy690⟩ : ∃ y_ : List Int, y_ = (([0] : List Int)) := ⟨_, rfl⟩
   replace H : (some (y687, y690)) = some (r1, r2) := by first | (rw [hy690]; with_reducible exact H) | (have H2_ := (Option.bind_some _ _).symm.trans H; rw [hy690]; with_reducible exact H2_) | (have H2_ := (Option.bind_some _ _).symm.trans H; with_reducible exact H2_) | with_reducible exact H | (rw [hy690]; exact H) | exact H
   have Ny690 := Ad_.mk hy690
   clear hy690
   simp only [Option.some.injEq, Prod.mk.injEq] at H
   obtain ⟨rfl, rfl⟩ := H
   go_enter Tryd.func108, Tryd.ntmps108
   go_wp2_with (first | ((with_reducible refine gD_ (N := 2) rfl ?_); refine bE_ ?hg (N := 2) ?hd (cs := #[.int .i64 a0_0, .int .i64 a0_1, .int .i64 a0_2, .int .i64 a0_3, .int .i64 a0_4, .string a0_5, .string a0_6]) (t := 55) ?hr ?_; (case hd => rfl); (case hg => rfl); (case hr => first | (go_simp; done) | (go_simp; rfl)); intro gb686 hg w4 hbox hb; have n0_ := Ad_.mk (bP_ (by repeat (with_reducible first | exact HB.out | apply bA_ | apply bN_ | apply b1_)) hb); have n1_ := Ad_.mk (hbox); have n2_ := Ad_.mk ((by rw [hg]; exact (bZ_ (by repeat (with_reducible first | exact HB.out | apply bA_ | apply bN_ | apply b1_))) : w.heap.size ≤ gb686)); have n3_ := Ad_.mk ((by rw [hg]; exact (bZ_ (by repeat (with_reducible first | exact HB.out | apply bA_ | apply bN_ | apply b1_))) : w.heap.size ≤ gb686)); clear HB; have HB := n0_; have BK686 := n1_; have GW686 := n2_; have GE686 := n3_; clear n0_ n1_ n2_ n3_; clear hb hbox hg; obtain ⟨hcz5_0, hcz5_1, hcz5_2, hcz5_3, hcz5_4, hcz5_5, hcz5_6⟩ := cells7_ BK686.out; obtain ⟨hfz5_0, hfz5_1, hfz5_2, hfz5_3, hfz5_4, hfz5_5, hfz5_6⟩ := froz7_ BK686.out) | ((with_reducible refine gD_ (N := 12) rfl ?_); refine Kd.R_lit Kd.string _ 9 ?hg (N := 12) ?hd (xs := ([a0_5] : List ByteArray)) (inner := [.string a0_5]) (ok := fun _ => True) (okp := fun _ => True) ?hr ?hp (fun _ hk => hk) trivial (Below.refl _ _) (Nat.le_refl _) (by simp) ?_; (case hd => rfl); (case hg => rfl); (case hr => first | (go_simp; done) | (go_simp; rfl)); (case hp => exact (Reps.one (show Kd.M Kd.string _ _ _ a0_5 [.string a0_5] from rfl) (Reps.none _ _))); intro v688 w6 ho7 hb hg_ hnew_; clear hg_ hnew_; (first | rw [← Ny687.out] at ho7 | (simp only [Int.reduceToNat] at ho7; rw [← Ny687.out] at ho7)); have n0_ := Ad_.mk (Kd.R_lower ho7 (bZ_ (by repeat (with_reducible first | exact HB.out | apply bA_ | apply bN_ | apply b1_ | refine bS_ ?_ GE686.out)))); have n1_ := Ad_.mk (blk_below (g := gb686) (o := .cells #[.int .i64 a0_0, .int .i64 a0_1, .int .i64 a0_2, .int .i64 a0_3, .int .i64 a0_4, .string a0_5, .string a0_6] 55 (0, 0)) (by (with_reducible repeat (first | refine kN_ ?_ _ | refine k1_ ?_ | refine kA_ ?_ _)); exact BK686.out) hb); have n2_ := Ad_.mk (bP_ (by repeat (with_reducible first | exact HB.out | apply bA_ | apply bN_ | apply b1_ | refine bS_ ?_ GE686.out)) hb); clear BK686; clear HB; have HO689 := n0_; have BK686 := n1_; have HB := n2_; clear n0_ n1_ n2_; clear hb ho7) | ((with_reducible refine gD_ (N := 13) rfl ?_); refine Kd.R_lit (Kd.int .i64) _ 3 ?hg (N := 13) ?hd (xs := ([0] : List Int)) (inner := [.int .i64 0]) (ok := fun _ => True) (okp := fun _ => True) ?hr ?hp (fun _ hk => hk) trivial (Below.refl _ _) (Nat.le_refl _) (by simp) ?_; (case hd => rfl); (case hg => rfl); (case hr => first | (go_simp; done) | (go_simp; rfl)); (case hp => exact (Reps.one (show Kd.M (Kd.int .i64) _ _ _ 0 [.int .i64 0] from rfl) (Reps.none _ _))); intro v691 w8 ho9 hb hg_ hnew_; clear hg_ hnew_; (first | rw [← Ny690.out] at ho9 | (simp only [Int.reduceToNat] at ho9; rw [← Ny690.out] at ho9)); have n0_ := Ad_.mk (Kd.R_below (by (with_reducible repeat (first | apply Kd.R_alloc | apply Kd.R_drewN | apply Kd.R_drew)); exact HO689.out) hb); have n1_ := Ad_.mk (Kd.R_lower ho9 (bZ_ (by repeat (with_reducible first | exact HB.out | apply bA_ | apply bN_ | apply b1_ | refine bS_ ?_ GE686.out)))); have n2_ := Ad_.mk (blk_below (g := gb686) (o := .cells #[.int .i64 a0_0, .int .i64 a0_1, .int .i64 a0_2, .int .i64 a0_3, .int .i64 a0_4, .string a0_5, .string a0_6] 55 (0, 0)) (by (with_reducible repeat (first | refine kN_ ?_ _ | refine k1_ ?_ | refine kA_ ?_ _)); exact BK686.out) hb); have n3_ := Ad_.mk (bP_ (by repeat (with_reducible first | exact HB.out | apply bA_ | apply bN_ | apply b1_ | refine bS_ ?_ GE686.out)) hb); clear HO689; clear BK686; clear HB; have HO689 := n0_; have HO692 := n1_; have BK686 := n2_; have HB := n3_; clear n0_ n1_ n2_ n3_; clear hb ho9))
   go_ret2
   exact ⟨_, _, by first | rfl | (simp [errW_none, errW_some] <;> rfl) | (simp [*, errW_none, errW_some] <;> rfl), by (with_reducible repeat (first | apply Kd.R_alloc | apply Kd.R_drewN | apply Kd.R_drew)); exact HO689.out, by (with_reducible repeat (first | apply Kd.R_alloc | apply Kd.R_drewN | apply Kd.R_drew)); exact HO692.out, by repeat (with_reducible first | exact HB.out | apply bA_ | apply bN_ | apply b1_ | refine bS_ ?_ GE686.out)⟩
  rw [if_neg c3] at H
  have c3b0 : (a0_0 == 3) = false := beq_eq_false_iff_ne.mpr c3
  have c3b1 : (a0_0 != 3) = true := bne_iff_ne.mpr c3
  have HC10 := Ad_.mk H
  clear H
  go_enter Tryd.func108, Tryd.ntmps108
  go_upto_if 14 with (first | ((with_reducible refine gD_ (N := 2) rfl ?_); refine bE_ ?hg (N := 2) ?hd (cs := #[.int .i64 a0_0, .int .i64 a0_1, .int .i64 a0_2, .int .i64 a0_3, .int .i64 a0_4, .string a0_5, .string a0_6]) (t := 55) ?hr ?_; (case hd => rfl); (case hg => rfl); (case hr => first | (go_simp; done) | (go_simp; rfl)); intro gb686 hg w11 hbox hb; have n0_ := Ad_.mk (bP_ (by repeat (with_reducible first | exact HB.out | apply bA_ | apply bN_ | apply b1_)) hb); have n1_ := Ad_.mk (hbox); have n2_ := Ad_.mk ((by rw [hg]; exact (bZ_ (by repeat (with_reducible first | exact HB.out | apply bA_ | apply bN_ | apply b1_))) : w.heap.size ≤ gb686)); have n3_ := Ad_.mk ((by rw [hg]; exact (bZ_ (by repeat (with_reducible first | exact HB.out | apply bA_ | apply bN_ | apply b1_))) : w.heap.size ≤ gb686)); clear HB; have HB := n0_; have BK686 := n1_; have GW686 := n2_; have GE686 := n3_; clear n0_ n1_ n2_ n3_; clear hb hbox hg; obtain ⟨hcz12_0, hcz12_1, hcz12_2, hcz12_3, hcz12_4, hcz12_5, hcz12_6⟩ := cells7_ BK686.out; obtain ⟨hfz12_0, hfz12_1, hfz12_2, hfz12_3, hfz12_4, hfz12_5, hfz12_6⟩ := froz7_ BK686.out))
  (try simp only [Act.put, List.setIfInBounds_toArray, List.set_cons_zero, List.set_cons_succ])
  go_cut [14] (fun v14 wc => ∃ (kq : Nat) (x14_9 : Bool), v14 = .bool x14_9 ∧ Ad_ (spec_l6Bound.j0 kq a1 a0_0 x14_9 a0_0 a0_1 a0_2 a0_3 a0_4 a0_5 a0_6 = some (r1, r2)) ∧ Ad_ (kq ≤ k) ∧ Ad_ (wc.heap[gb686]? = some (.cells #[.int .i64 a0_0, .int .i64 a0_1, .int .i64 a0_2, .int .i64 a0_3, .int .i64 a0_4, .string a0_5, .string a0_6] 55 (0, 0))) ∧ Ad_ (Below w.heap.size w wc))
  case first =>
    have H := HC10.out
    clear HC10
    by_cases c13 : a0_0 = 5
    rotate_left
    ·
     rw [if_neg c13] at H
     have c13b0 : (a0_0 == 5) = false := beq_eq_false_iff_ne.mpr c13
     have c13b1 : (a0_0 != 5) = true := bne_iff_ne.mpr c13
     (first | rw [c13b0] | (simp only [i64_w, i32_w]; rw [c13b0]) | skip)
     have H' := Ad_.mk H
     clear H
     go_wp2
     go_meet
     case rel => exact ⟨_, ((a0_0 == 19)), fs_, H', ⟨by first | omega | exact Nat.le_refl _⟩, ⟨by (with_reducible repeat (first | refine kN_ ?_ _ | refine k1_ ?_ | refine kA_ ?_ _)); exact BK686.out⟩, ⟨by repeat (with_reducible first | exact HB.out | apply bA_ | apply bN_ | apply b1_ | refine bS_ ?_ GE686.out)⟩⟩
    rw [if_pos c13] at H
    have c13b0 : (a0_0 == 5) = true := beq_iff_eq.mpr c13
    have c13b1 : (a0_0 != 5) = false := bne_eq_false_iff_eq.mpr c13
    clear c13
    (first | rw [c13b0] | (simp only [i64_w, i32_w]; rw [c13b0]) | skip)
    have H' := Ad_.mk H
    clear H
    go_wp2
    go_meet
    case rel => exact ⟨_, ((a0_0 == 5)), fs_, H', ⟨by first | omega | exact Nat.le_refl _⟩, ⟨by (with_reducible repeat (first | refine kN_ ?_ _ | refine k1_ ?_ | refine kA_ ?_ _)); exact BK686.out⟩, ⟨by repeat (with_reducible first | exact HB.out | apply bA_ | apply bN_ | apply b1_ | refine bS_ ?_ GE686.out)⟩⟩
  case rest =>
    clear HC10
    try clear p2
    try clear c3b0 c3b1
    try clear c13b0 c13b1
    try clear hcz12_0 hcz12_1 hcz12_2 hcz12_3 hcz12_4 hcz12_5 hcz12_6
    try clear hcz5_0 hcz5_1 hcz5_2 hcz5_3 hcz5_4 hcz5_5 hcz5_6
    try clear hfz12_0 hfz12_1 hfz12_2 hfz12_3 hfz12_4 hfz12_5 hfz12_6
    try clear hfz5_0 hfz5_1 hfz5_2 hfz5_3 hfz5_4 hfz5_5 hfz5_6
    obtain ⟨kq, x14_9, rfl, HA, HJ9, BK686, HB⟩ := hcut
    cases kq with
    | zero => exact absurd HA.out (by simp [spec_l6Bound.j0])
    | succ kj9 =>
      have H := HA.out
      clear HA
      simp only [spec_l6Bound.j0] at H
      by_cases c14 : x14_9 = true
      ·
       subst c14
       have H1 := H
       rw [if_pos rfl] at H1
       clear H
       have H := H1
       clear H1
       by_cases c15 : a1 = a0_2
       rotate_left
       ·
        rw [if_neg c15] at H
        have c15b0 : (a1 == a0_2) = false := beq_eq_false_iff_ne.mpr c15
        have c15b1 : (a1 != a0_2) = true := bne_iff_ne.mpr c15
        obtain ⟨y699, hy699⟩ : ∃ y_ : List ByteArray, y_ = (([] : List ByteArray)) := ⟨_, rfl⟩
        replace H : (some (y699, (([] : List Int)))) = some (r1, r2) := by first | (rw [hy699]; with_reducible exact H) | (have H2_ := (Option.bind_some _ _).symm.trans H; rw [hy699]; with_reducible exact H2_) | (have H2_ := (Option.bind_some _ _).symm.trans H; with_reducible exact H2_) | with_reducible exact H | (rw [hy699]; exact H) | exact H
        have Ny699 := Ad_.mk hy699
        clear hy699
        obtain ⟨y702, hy702⟩ : ∃ y_ : List Int, y_ = (([] : List Int)) := ⟨_, rfl⟩
        replace H : (some (y699, y702)) = some (r1, r2) := by first | (rw [hy702]; with_reducible exact H) | (have H2_ := (Option.bind_some _ _).symm.trans H; rw [hy702]; with_reducible exact H2_) | (have H2_ := (Option.bind_some _ _).symm.trans H; with_reducible exact H2_) | with_reducible exact H | (rw [hy702]; exact H) | exact H
        have Ny702 := Ad_.mk hy702
        clear hy702
        simp only [Option.some.injEq, Prod.mk.injEq] at H
        obtain ⟨rfl, rfl⟩ := H
        obtain ⟨hcz21_0, hcz21_1, hcz21_2, hcz21_3, hcz21_4, hcz21_5, hcz21_6⟩ := cells7_ BK686.out
        obtain ⟨hfz21_0, hfz21_1, hfz21_2, hfz21_3, hfz21_4, hfz21_5, hfz21_6⟩ := froz7_ BK686.out
        go_wp2_with (first | ((with_reducible refine gD_ (N := 53) rfl ?_); refine Kd.R_lit Kd.string _ 9 ?hg (N := 53) ?hd (xs := ([] : List ByteArray)) (inner := []) (ok := fun _ => True) (okp := fun _ => True) ?hr ?hp (fun _ hk => hk) trivial (Below.refl _ _) (Nat.le_refl _) (by simp) ?_; (case hd => rfl); (case hg => rfl); (case hr => first | (go_simp; done) | (go_simp; rfl)); (case hp => exact (Reps.none _ _)); intro v700 w22 ho23 hb hg_ hnew_; clear hg_ hnew_; (first | rw [← Ny699.out] at ho23 | (simp only [Int.reduceToNat] at ho23; rw [← Ny699.out] at ho23)); have n0_ := Ad_.mk (Kd.R_lower ho23 (bZ_ (by repeat (with_reducible first | exact HB.out | apply bA_ | apply bN_ | apply b1_ | refine bS_ ?_ GE686.out)))); have n1_ := Ad_.mk (blk_below (g := gb686) (o := .cells #[.int .i64 a0_0, .int .i64 a0_1, .int .i64 a0_2, .int .i64 a0_3, .int .i64 a0_4, .string a0_5, .string a0_6] 55 (0, 0)) (by (with_reducible repeat (first | refine kN_ ?_ _ | refine k1_ ?_ | refine kA_ ?_ _)); exact BK686.out) hb); have n2_ := Ad_.mk (bP_ (by repeat (with_reducible first | exact HB.out | apply bA_ | apply bN_ | apply b1_ | refine bS_ ?_ GE686.out)) hb); clear BK686; clear HB; have HO701 := n0_; have BK686 := n1_; have HB := n2_; clear n0_ n1_ n2_; clear hb ho23) | ((with_reducible refine gD_ (N := 54) rfl ?_); refine Kd.R_lit (Kd.int .i64) _ 3 ?hg (N := 54) ?hd (xs := ([] : List Int)) (inner := []) (ok := fun _ => True) (okp := fun _ => True) ?hr ?hp (fun _ hk => hk) trivial (Below.refl _ _) (Nat.le_refl _) (by simp) ?_; (case hd => rfl); (case hg => rfl); (case hr => first | (go_simp; done) | (go_simp; rfl)); (case hp => exact (Reps.none _ _)); intro v703 w24 ho25 hb hg_ hnew_; clear hg_ hnew_; (first | rw [← Ny702.out] at ho25 | (simp only [Int.reduceToNat] at ho25; rw [← Ny702.out] at ho25)); have n0_ := Ad_.mk (Kd.R_below (by (with_reducible repeat (first | apply Kd.R_alloc | apply Kd.R_drewN | apply Kd.R_drew)); exact HO701.out) hb); have n1_ := Ad_.mk (Kd.R_lower ho25 (bZ_ (by repeat (with_reducible first | exact HB.out | apply bA_ | apply bN_ | apply b1_ | refine bS_ ?_ GE686.out)))); have n2_ := Ad_.mk (blk_below (g := gb686) (o := .cells #[.int .i64 a0_0, .int .i64 a0_1, .int .i64 a0_2, .int .i64 a0_3, .int .i64 a0_4, .string a0_5, .string a0_6] 55 (0, 0)) (by (with_reducible repeat (first | refine kN_ ?_ _ | refine k1_ ?_ | refine kA_ ?_ _)); exact BK686.out) hb); have n3_ := Ad_.mk (bP_ (by repeat (with_reducible first | exact HB.out | apply bA_ | apply bN_ | apply b1_ | refine bS_ ?_ GE686.out)) hb); clear HO701; clear BK686; clear HB; have HO701 := n0_; have HO704 := n1_; have BK686 := n2_; have HB := n3_; clear n0_ n1_ n2_ n3_; clear hb ho25))
        go_ret2
        exact ⟨_, _, by first | rfl | (simp [errW_none, errW_some] <;> rfl) | (simp [*, errW_none, errW_some] <;> rfl), by (with_reducible repeat (first | apply Kd.R_alloc | apply Kd.R_drewN | apply Kd.R_drew)); exact HO701.out, by (with_reducible repeat (first | apply Kd.R_alloc | apply Kd.R_drewN | apply Kd.R_drew)); exact HO704.out, by repeat (with_reducible first | exact HB.out | apply bA_ | apply bN_ | apply b1_ | refine bS_ ?_ GE686.out)⟩
       rw [if_pos c15] at H
       have c15b0 : (a1 == a0_2) = true := beq_iff_eq.mpr c15
       have c15b1 : (a1 != a0_2) = false := bne_eq_false_iff_eq.mpr c15
       clear c15
       obtain ⟨y693, hy693⟩ : ∃ y_ : List ByteArray, y_ = (([a0_5] : List ByteArray)) := ⟨_, rfl⟩
       replace H : (some (y693, (([0] : List Int)))) = some (r1, r2) := by first | (rw [hy693]; with_reducible exact H) | (have H2_ := (Option.bind_some _ _).symm.trans H; rw [hy693]; with_reducible exact H2_) | (have H2_ := (Option.bind_some _ _).symm.trans H; with_reducible exact H2_) | with_reducible exact H | (rw [hy693]; exact H) | exact H
       have Ny693 := Ad_.mk hy693
       clear hy693
       obtain ⟨y696, hy696⟩ : ∃ y_ : List Int, y_ = (([0] : List Int)) := ⟨_, rfl⟩
       replace H : (some (y693, y696)) = some (r1, r2) := by first | (rw [hy696]; with_reducible exact H) | (have H2_ := (Option.bind_some _ _).symm.trans H; rw [hy696]; with_reducible exact H2_) | (have H2_ := (Option.bind_some _ _).symm.trans H; with_reducible exact H2_) | with_reducible exact H | (rw [hy696]; exact H) | exact H
       have Ny696 := Ad_.mk hy696
       clear hy696
       simp only [Option.some.injEq, Prod.mk.injEq] at H
       obtain ⟨rfl, rfl⟩ := H
       obtain ⟨hcz16_0, hcz16_1, hcz16_2, hcz16_3, hcz16_4, hcz16_5, hcz16_6⟩ := cells7_ BK686.out
       obtain ⟨hfz16_0, hfz16_1, hfz16_2, hfz16_3, hfz16_4, hfz16_5, hfz16_6⟩ := froz7_ BK686.out
       go_wp2_with (first | ((with_reducible refine gD_ (N := 23) rfl ?_); refine Kd.R_lit Kd.string _ 9 ?hg (N := 23) ?hd (xs := ([a0_5] : List ByteArray)) (inner := [.string a0_5]) (ok := fun _ => True) (okp := fun _ => True) ?hr ?hp (fun _ hk => hk) trivial (Below.refl _ _) (Nat.le_refl _) (by simp) ?_; (case hd => rfl); (case hg => rfl); (case hr => first | (go_simp; done) | (go_simp; rfl)); (case hp => exact (Reps.one (show Kd.M Kd.string _ _ _ a0_5 [.string a0_5] from rfl) (Reps.none _ _))); intro v694 w17 ho18 hb hg_ hnew_; clear hg_ hnew_; (first | rw [← Ny693.out] at ho18 | (simp only [Int.reduceToNat] at ho18; rw [← Ny693.out] at ho18)); have n0_ := Ad_.mk (Kd.R_lower ho18 (bZ_ (by repeat (with_reducible first | exact HB.out | apply bA_ | apply bN_ | apply b1_ | refine bS_ ?_ GE686.out)))); have n1_ := Ad_.mk (blk_below (g := gb686) (o := .cells #[.int .i64 a0_0, .int .i64 a0_1, .int .i64 a0_2, .int .i64 a0_3, .int .i64 a0_4, .string a0_5, .string a0_6] 55 (0, 0)) (by (with_reducible repeat (first | refine kN_ ?_ _ | refine k1_ ?_ | refine kA_ ?_ _)); exact BK686.out) hb); have n2_ := Ad_.mk (bP_ (by repeat (with_reducible first | exact HB.out | apply bA_ | apply bN_ | apply b1_ | refine bS_ ?_ GE686.out)) hb); clear BK686; clear HB; have HO695 := n0_; have BK686 := n1_; have HB := n2_; clear n0_ n1_ n2_; clear hb ho18) | ((with_reducible refine gD_ (N := 24) rfl ?_); refine Kd.R_lit (Kd.int .i64) _ 3 ?hg (N := 24) ?hd (xs := ([0] : List Int)) (inner := [.int .i64 0]) (ok := fun _ => True) (okp := fun _ => True) ?hr ?hp (fun _ hk => hk) trivial (Below.refl _ _) (Nat.le_refl _) (by simp) ?_; (case hd => rfl); (case hg => rfl); (case hr => first | (go_simp; done) | (go_simp; rfl)); (case hp => exact (Reps.one (show Kd.M (Kd.int .i64) _ _ _ 0 [.int .i64 0] from rfl) (Reps.none _ _))); intro v697 w19 ho20 hb hg_ hnew_; clear hg_ hnew_; (first | rw [← Ny696.out] at ho20 | (simp only [Int.reduceToNat] at ho20; rw [← Ny696.out] at ho20)); have n0_ := Ad_.mk (Kd.R_below (by (with_reducible repeat (first | apply Kd.R_alloc | apply Kd.R_drewN | apply Kd.R_drew)); exact HO695.out) hb); have n1_ := Ad_.mk (Kd.R_lower ho20 (bZ_ (by repeat (with_reducible first | exact HB.out | apply bA_ | apply bN_ | apply b1_ | refine bS_ ?_ GE686.out)))); have n2_ := Ad_.mk (blk_below (g := gb686) (o := .cells #[.int .i64 a0_0, .int .i64 a0_1, .int .i64 a0_2, .int .i64 a0_3, .int .i64 a0_4, .string a0_5, .string a0_6] 55 (0, 0)) (by (with_reducible repeat (first | refine kN_ ?_ _ | refine k1_ ?_ | refine kA_ ?_ _)); exact BK686.out) hb); have n3_ := Ad_.mk (bP_ (by repeat (with_reducible first | exact HB.out | apply bA_ | apply bN_ | apply b1_ | refine bS_ ?_ GE686.out)) hb); clear HO695; clear BK686; clear HB; have HO695 := n0_; have HO698 := n1_; have BK686 := n2_; have HB := n3_; clear n0_ n1_ n2_ n3_; clear hb ho20))
       go_ret2
       exact ⟨_, _, by first | rfl | (simp [errW_none, errW_some] <;> rfl) | (simp [*, errW_none, errW_some] <;> rfl), by (with_reducible repeat (first | apply Kd.R_alloc | apply Kd.R_drewN | apply Kd.R_drew)); exact HO695.out, by (with_reducible repeat (first | apply Kd.R_alloc | apply Kd.R_drewN | apply Kd.R_drew)); exact HO698.out, by repeat (with_reducible first | exact HB.out | apply bA_ | apply bN_ | apply b1_ | refine bS_ ?_ GE686.out)⟩
      replace c14 := Bool.eq_false_iff.mpr c14
      subst c14
      have H1 : (if a0_0 = 6 then (if a1 = a0_1 then (some ((([a0_6, a0_5] : List ByteArray)), (([1, 0] : List Int)))) else (some ((([a0_5] : List ByteArray)), (([0] : List Int))))) else (if a0_0 = 14 then (if a1 = a0_3 then (some ((([a0_6, a0_5] : List ByteArray)), (([1, 0] : List Int)))) else (some ((([] : List ByteArray)), (([] : List Int))))) else (some ((([] : List ByteArray)), (([] : List Int)))))) = some (r1, r2) := by rw [if_neg (show ¬ (false = true) by decide)] at H; exact H
      clear H
      have H := H1
      clear H1
      by_cases c26 : a0_0 = 6
      ·
       rw [if_pos c26] at H
       have c26b0 : (a0_0 == 6) = true := beq_iff_eq.mpr c26
       have c26b1 : (a0_0 != 6) = false := bne_eq_false_iff_eq.mpr c26
       clear c26
       by_cases c27 : a1 = a0_1
       rotate_left
       ·
        rw [if_neg c27] at H
        have c27b0 : (a1 == a0_1) = false := beq_eq_false_iff_ne.mpr c27
        have c27b1 : (a1 != a0_1) = true := bne_iff_ne.mpr c27
        obtain ⟨y711, hy711⟩ : ∃ y_ : List ByteArray, y_ = (([a0_5] : List ByteArray)) := ⟨_, rfl⟩
        replace H : (some (y711, (([0] : List Int)))) = some (r1, r2) := by first | (rw [hy711]; with_reducible exact H) | (have H2_ := (Option.bind_some _ _).symm.trans H; rw [hy711]; with_reducible exact H2_) | (have H2_ := (Option.bind_some _ _).symm.trans H; with_reducible exact H2_) | with_reducible exact H | (rw [hy711]; exact H) | exact H
        have Ny711 := Ad_.mk hy711
        clear hy711
        obtain ⟨y714, hy714⟩ : ∃ y_ : List Int, y_ = (([0] : List Int)) := ⟨_, rfl⟩
        replace H : (some (y711, y714)) = some (r1, r2) := by first | (rw [hy714]; with_reducible exact H) | (have H2_ := (Option.bind_some _ _).symm.trans H; rw [hy714]; with_reducible exact H2_) | (have H2_ := (Option.bind_some _ _).symm.trans H; with_reducible exact H2_) | with_reducible exact H | (rw [hy714]; exact H) | exact H
        have Ny714 := Ad_.mk hy714
        clear hy714
        simp only [Option.some.injEq, Prod.mk.injEq] at H
        obtain ⟨rfl, rfl⟩ := H
        obtain ⟨hcz33_0, hcz33_1, hcz33_2, hcz33_3, hcz33_4, hcz33_5, hcz33_6⟩ := cells7_ BK686.out
        obtain ⟨hfz33_0, hfz33_1, hfz33_2, hfz33_3, hfz33_4, hfz33_5, hfz33_6⟩ := froz7_ BK686.out
        go_wp2_with (first | ((with_reducible refine gD_ (N := 39) rfl ?_); refine Kd.R_lit Kd.string _ 9 ?hg (N := 39) ?hd (xs := ([a0_5] : List ByteArray)) (inner := [.string a0_5]) (ok := fun _ => True) (okp := fun _ => True) ?hr ?hp (fun _ hk => hk) trivial (Below.refl _ _) (Nat.le_refl _) (by simp) ?_; (case hd => rfl); (case hg => rfl); (case hr => first | (go_simp; done) | (go_simp; rfl)); (case hp => exact (Reps.one (show Kd.M Kd.string _ _ _ a0_5 [.string a0_5] from rfl) (Reps.none _ _))); intro v712 w34 ho35 hb hg_ hnew_; clear hg_ hnew_; (first | rw [← Ny711.out] at ho35 | (simp only [Int.reduceToNat] at ho35; rw [← Ny711.out] at ho35)); have n0_ := Ad_.mk (Kd.R_lower ho35 (bZ_ (by repeat (with_reducible first | exact HB.out | apply bA_ | apply bN_ | apply b1_ | refine bS_ ?_ GE686.out)))); have n1_ := Ad_.mk (blk_below (g := gb686) (o := .cells #[.int .i64 a0_0, .int .i64 a0_1, .int .i64 a0_2, .int .i64 a0_3, .int .i64 a0_4, .string a0_5, .string a0_6] 55 (0, 0)) (by (with_reducible repeat (first | refine kN_ ?_ _ | refine k1_ ?_ | refine kA_ ?_ _)); exact BK686.out) hb); have n2_ := Ad_.mk (bP_ (by repeat (with_reducible first | exact HB.out | apply bA_ | apply bN_ | apply b1_ | refine bS_ ?_ GE686.out)) hb); clear BK686; clear HB; have HO713 := n0_; have BK686 := n1_; have HB := n2_; clear n0_ n1_ n2_; clear hb ho35) | ((with_reducible refine gD_ (N := 40) rfl ?_); refine Kd.R_lit (Kd.int .i64) _ 3 ?hg (N := 40) ?hd (xs := ([0] : List Int)) (inner := [.int .i64 0]) (ok := fun _ => True) (okp := fun _ => True) ?hr ?hp (fun _ hk => hk) trivial (Below.refl _ _) (Nat.le_refl _) (by simp) ?_; (case hd => rfl); (case hg => rfl); (case hr => first | (go_simp; done) | (go_simp; rfl)); (case hp => exact (Reps.one (show Kd.M (Kd.int .i64) _ _ _ 0 [.int .i64 0] from rfl) (Reps.none _ _))); intro v715 w36 ho37 hb hg_ hnew_; clear hg_ hnew_; (first | rw [← Ny714.out] at ho37 | (simp only [Int.reduceToNat] at ho37; rw [← Ny714.out] at ho37)); have n0_ := Ad_.mk (Kd.R_below (by (with_reducible repeat (first | apply Kd.R_alloc | apply Kd.R_drewN | apply Kd.R_drew)); exact HO713.out) hb); have n1_ := Ad_.mk (Kd.R_lower ho37 (bZ_ (by repeat (with_reducible first | exact HB.out | apply bA_ | apply bN_ | apply b1_ | refine bS_ ?_ GE686.out)))); have n2_ := Ad_.mk (blk_below (g := gb686) (o := .cells #[.int .i64 a0_0, .int .i64 a0_1, .int .i64 a0_2, .int .i64 a0_3, .int .i64 a0_4, .string a0_5, .string a0_6] 55 (0, 0)) (by (with_reducible repeat (first | refine kN_ ?_ _ | refine k1_ ?_ | refine kA_ ?_ _)); exact BK686.out) hb); have n3_ := Ad_.mk (bP_ (by repeat (with_reducible first | exact HB.out | apply bA_ | apply bN_ | apply b1_ | refine bS_ ?_ GE686.out)) hb); clear HO713; clear BK686; clear HB; have HO713 := n0_; have HO716 := n1_; have BK686 := n2_; have HB := n3_; clear n0_ n1_ n2_ n3_; clear hb ho37))
        go_ret2
        exact ⟨_, _, by first | rfl | (simp [errW_none, errW_some] <;> rfl) | (simp [*, errW_none, errW_some] <;> rfl), by (with_reducible repeat (first | apply Kd.R_alloc | apply Kd.R_drewN | apply Kd.R_drew)); exact HO713.out, by (with_reducible repeat (first | apply Kd.R_alloc | apply Kd.R_drewN | apply Kd.R_drew)); exact HO716.out, by repeat (with_reducible first | exact HB.out | apply bA_ | apply bN_ | apply b1_ | refine bS_ ?_ GE686.out)⟩
       rw [if_pos c27] at H
       have c27b0 : (a1 == a0_1) = true := beq_iff_eq.mpr c27
       have c27b1 : (a1 != a0_1) = false := bne_eq_false_iff_eq.mpr c27
       clear c27
       obtain ⟨y705, hy705⟩ : ∃ y_ : List ByteArray, y_ = (([a0_6, a0_5] : List ByteArray)) := ⟨_, rfl⟩
       replace H : (some (y705, (([1, 0] : List Int)))) = some (r1, r2) := by first | (rw [hy705]; with_reducible exact H) | (have H2_ := (Option.bind_some _ _).symm.trans H; rw [hy705]; with_reducible exact H2_) | (have H2_ := (Option.bind_some _ _).symm.trans H; with_reducible exact H2_) | with_reducible exact H | (rw [hy705]; exact H) | exact H
       have Ny705 := Ad_.mk hy705
       clear hy705
       obtain ⟨y708, hy708⟩ : ∃ y_ : List Int, y_ = (([1, 0] : List Int)) := ⟨_, rfl⟩
       replace H : (some (y705, y708)) = some (r1, r2) := by first | (rw [hy708]; with_reducible exact H) | (have H2_ := (Option.bind_some _ _).symm.trans H; rw [hy708]; with_reducible exact H2_) | (have H2_ := (Option.bind_some _ _).symm.trans H; with_reducible exact H2_) | with_reducible exact H | (rw [hy708]; exact H) | exact H
       have Ny708 := Ad_.mk hy708
       clear hy708
       simp only [Option.some.injEq, Prod.mk.injEq] at H
       obtain ⟨rfl, rfl⟩ := H
       obtain ⟨hcz28_0, hcz28_1, hcz28_2, hcz28_3, hcz28_4, hcz28_5, hcz28_6⟩ := cells7_ BK686.out
       obtain ⟨hfz28_0, hfz28_1, hfz28_2, hfz28_3, hfz28_4, hfz28_5, hfz28_6⟩ := froz7_ BK686.out
       go_wp2_with (first | ((with_reducible refine gD_ (N := 35) rfl ?_); refine Kd.R_lit Kd.string _ 9 ?hg (N := 35) ?hd (xs := ([a0_6, a0_5] : List ByteArray)) (inner := [.string a0_6, .string a0_5]) (ok := fun _ => True) (okp := fun _ => True) ?hr ?hp (fun _ hk => hk) trivial (Below.refl _ _) (Nat.le_refl _) (by simp) ?_; (case hd => rfl); (case hg => rfl); (case hr => first | (go_simp; done) | (go_simp; rfl)); (case hp => exact (Reps.one (show Kd.M Kd.string _ _ _ a0_6 [.string a0_6] from rfl) (Reps.one (show Kd.M Kd.string _ _ _ a0_5 [.string a0_5] from rfl) (Reps.none _ _)))); intro v706 w29 ho30 hb hg_ hnew_; clear hg_ hnew_; (first | rw [← Ny705.out] at ho30 | (simp only [Int.reduceToNat] at ho30; rw [← Ny705.out] at ho30)); have n0_ := Ad_.mk (Kd.R_lower ho30 (bZ_ (by repeat (with_reducible first | exact HB.out | apply bA_ | apply bN_ | apply b1_ | refine bS_ ?_ GE686.out)))); have n1_ := Ad_.mk (blk_below (g := gb686) (o := .cells #[.int .i64 a0_0, .int .i64 a0_1, .int .i64 a0_2, .int .i64 a0_3, .int .i64 a0_4, .string a0_5, .string a0_6] 55 (0, 0)) (by (with_reducible repeat (first | refine kN_ ?_ _ | refine k1_ ?_ | refine kA_ ?_ _)); exact BK686.out) hb); have n2_ := Ad_.mk (bP_ (by repeat (with_reducible first | exact HB.out | apply bA_ | apply bN_ | apply b1_ | refine bS_ ?_ GE686.out)) hb); clear BK686; clear HB; have HO707 := n0_; have BK686 := n1_; have HB := n2_; clear n0_ n1_ n2_; clear hb ho30) | ((with_reducible refine gD_ (N := 36) rfl ?_); refine Kd.R_lit (Kd.int .i64) _ 3 ?hg (N := 36) ?hd (xs := ([1, 0] : List Int)) (inner := [.int .i64 1, .int .i64 0]) (ok := fun _ => True) (okp := fun _ => True) ?hr ?hp (fun _ hk => hk) trivial (Below.refl _ _) (Nat.le_refl _) (by simp) ?_; (case hd => rfl); (case hg => rfl); (case hr => first | (go_simp; done) | (go_simp; rfl)); (case hp => exact (Reps.one (show Kd.M (Kd.int .i64) _ _ _ 1 [.int .i64 1] from rfl) (Reps.one (show Kd.M (Kd.int .i64) _ _ _ 0 [.int .i64 0] from rfl) (Reps.none _ _)))); intro v709 w31 ho32 hb hg_ hnew_; clear hg_ hnew_; (first | rw [← Ny708.out] at ho32 | (simp only [Int.reduceToNat] at ho32; rw [← Ny708.out] at ho32)); have n0_ := Ad_.mk (Kd.R_below (by (with_reducible repeat (first | apply Kd.R_alloc | apply Kd.R_drewN | apply Kd.R_drew)); exact HO707.out) hb); have n1_ := Ad_.mk (Kd.R_lower ho32 (bZ_ (by repeat (with_reducible first | exact HB.out | apply bA_ | apply bN_ | apply b1_ | refine bS_ ?_ GE686.out)))); have n2_ := Ad_.mk (blk_below (g := gb686) (o := .cells #[.int .i64 a0_0, .int .i64 a0_1, .int .i64 a0_2, .int .i64 a0_3, .int .i64 a0_4, .string a0_5, .string a0_6] 55 (0, 0)) (by (with_reducible repeat (first | refine kN_ ?_ _ | refine k1_ ?_ | refine kA_ ?_ _)); exact BK686.out) hb); have n3_ := Ad_.mk (bP_ (by repeat (with_reducible first | exact HB.out | apply bA_ | apply bN_ | apply b1_ | refine bS_ ?_ GE686.out)) hb); clear HO707; clear BK686; clear HB; have HO707 := n0_; have HO710 := n1_; have BK686 := n2_; have HB := n3_; clear n0_ n1_ n2_ n3_; clear hb ho32))
       go_ret2
       exact ⟨_, _, by first | rfl | (simp [errW_none, errW_some] <;> rfl) | (simp [*, errW_none, errW_some] <;> rfl), by (with_reducible repeat (first | apply Kd.R_alloc | apply Kd.R_drewN | apply Kd.R_drew)); exact HO707.out, by (with_reducible repeat (first | apply Kd.R_alloc | apply Kd.R_drewN | apply Kd.R_drew)); exact HO710.out, by repeat (with_reducible first | exact HB.out | apply bA_ | apply bN_ | apply b1_ | refine bS_ ?_ GE686.out)⟩
      rw [if_neg c26] at H
      have c26b0 : (a0_0 == 6) = false := beq_eq_false_iff_ne.mpr c26
      have c26b1 : (a0_0 != 6) = true := bne_iff_ne.mpr c26
      by_cases c38 : a0_0 = 14
      rotate_left
      ·
       rw [if_neg c38] at H
       have c38b0 : (a0_0 == 14) = false := beq_eq_false_iff_ne.mpr c38
       have c38b1 : (a0_0 != 14) = true := bne_iff_ne.mpr c38
       obtain ⟨y729, hy729⟩ : ∃ y_ : List ByteArray, y_ = (([] : List ByteArray)) := ⟨_, rfl⟩
       replace H : (some (y729, (([] : List Int)))) = some (r1, r2) := by first | (rw [hy729]; with_reducible exact H) | (have H2_ := (Option.bind_some _ _).symm.trans H; rw [hy729]; with_reducible exact H2_) | (have H2_ := (Option.bind_some _ _).symm.trans H; with_reducible exact H2_) | with_reducible exact H | (rw [hy729]; exact H) | exact H
       have Ny729 := Ad_.mk hy729
       clear hy729
       obtain ⟨y732, hy732⟩ : ∃ y_ : List Int, y_ = (([] : List Int)) := ⟨_, rfl⟩
       replace H : (some (y729, y732)) = some (r1, r2) := by first | (rw [hy732]; with_reducible exact H) | (have H2_ := (Option.bind_some _ _).symm.trans H; rw [hy732]; with_reducible exact H2_) | (have H2_ := (Option.bind_some _ _).symm.trans H; with_reducible exact H2_) | with_reducible exact H | (rw [hy732]; exact H) | exact H
       have Ny732 := Ad_.mk hy732
       clear hy732
       simp only [Option.some.injEq, Prod.mk.injEq] at H
       obtain ⟨rfl, rfl⟩ := H
       go_wp2_with (first | ((with_reducible refine gD_ (N := 53) rfl ?_); refine Kd.R_lit Kd.string _ 9 ?hg (N := 53) ?hd (xs := ([] : List ByteArray)) (inner := []) (ok := fun _ => True) (okp := fun _ => True) ?hr ?hp (fun _ hk => hk) trivial (Below.refl _ _) (Nat.le_refl _) (by simp) ?_; (case hd => rfl); (case hg => rfl); (case hr => first | (go_simp; done) | (go_simp; rfl)); (case hp => exact (Reps.none _ _)); intro v730 w50 ho51 hb hg_ hnew_; clear hg_ hnew_; (first | rw [← Ny729.out] at ho51 | (simp only [Int.reduceToNat] at ho51; rw [← Ny729.out] at ho51)); have n0_ := Ad_.mk (Kd.R_lower ho51 (bZ_ (by repeat (with_reducible first | exact HB.out | apply bA_ | apply bN_ | apply b1_ | refine bS_ ?_ GE686.out)))); have n1_ := Ad_.mk (blk_below (g := gb686) (o := .cells #[.int .i64 a0_0, .int .i64 a0_1, .int .i64 a0_2, .int .i64 a0_3, .int .i64 a0_4, .string a0_5, .string a0_6] 55 (0, 0)) (by (with_reducible repeat (first | refine kN_ ?_ _ | refine k1_ ?_ | refine kA_ ?_ _)); exact BK686.out) hb); have n2_ := Ad_.mk (bP_ (by repeat (with_reducible first | exact HB.out | apply bA_ | apply bN_ | apply b1_ | refine bS_ ?_ GE686.out)) hb); clear BK686; clear HB; have HO731 := n0_; have BK686 := n1_; have HB := n2_; clear n0_ n1_ n2_; clear hb ho51) | ((with_reducible refine gD_ (N := 54) rfl ?_); refine Kd.R_lit (Kd.int .i64) _ 3 ?hg (N := 54) ?hd (xs := ([] : List Int)) (inner := []) (ok := fun _ => True) (okp := fun _ => True) ?hr ?hp (fun _ hk => hk) trivial (Below.refl _ _) (Nat.le_refl _) (by simp) ?_; (case hd => rfl); (case hg => rfl); (case hr => first | (go_simp; done) | (go_simp; rfl)); (case hp => exact (Reps.none _ _)); intro v733 w52 ho53 hb hg_ hnew_; clear hg_ hnew_; (first | rw [← Ny732.out] at ho53 | (simp only [Int.reduceToNat] at ho53; rw [← Ny732.out] at ho53)); have n0_ := Ad_.mk (Kd.R_below (by (with_reducible repeat (first | apply Kd.R_alloc | apply Kd.R_drewN | apply Kd.R_drew)); exact HO731.out) hb); have n1_ := Ad_.mk (Kd.R_lower ho53 (bZ_ (by repeat (with_reducible first | exact HB.out | apply bA_ | apply bN_ | apply b1_ | refine bS_ ?_ GE686.out)))); have n2_ := Ad_.mk (blk_below (g := gb686) (o := .cells #[.int .i64 a0_0, .int .i64 a0_1, .int .i64 a0_2, .int .i64 a0_3, .int .i64 a0_4, .string a0_5, .string a0_6] 55 (0, 0)) (by (with_reducible repeat (first | refine kN_ ?_ _ | refine k1_ ?_ | refine kA_ ?_ _)); exact BK686.out) hb); have n3_ := Ad_.mk (bP_ (by repeat (with_reducible first | exact HB.out | apply bA_ | apply bN_ | apply b1_ | refine bS_ ?_ GE686.out)) hb); clear HO731; clear BK686; clear HB; have HO731 := n0_; have HO734 := n1_; have BK686 := n2_; have HB := n3_; clear n0_ n1_ n2_ n3_; clear hb ho53))
       go_ret2
       exact ⟨_, _, by first | rfl | (simp [errW_none, errW_some] <;> rfl) | (simp [*, errW_none, errW_some] <;> rfl), by (with_reducible repeat (first | apply Kd.R_alloc | apply Kd.R_drewN | apply Kd.R_drew)); exact HO731.out, by (with_reducible repeat (first | apply Kd.R_alloc | apply Kd.R_drewN | apply Kd.R_drew)); exact HO734.out, by repeat (with_reducible first | exact HB.out | apply bA_ | apply bN_ | apply b1_ | refine bS_ ?_ GE686.out)⟩
      rw [if_pos c38] at H
      have c38b0 : (a0_0 == 14) = true := beq_iff_eq.mpr c38
      have c38b1 : (a0_0 != 14) = false := bne_eq_false_iff_eq.mpr c38
      clear c38
      by_cases c39 : a1 = a0_3
      rotate_left
      ·
       rw [if_neg c39] at H
       have c39b0 : (a1 == a0_3) = false := beq_eq_false_iff_ne.mpr c39
       have c39b1 : (a1 != a0_3) = true := bne_iff_ne.mpr c39
       obtain ⟨y723, hy723⟩ : ∃ y_ : List ByteArray, y_ = (([] : List ByteArray)) := ⟨_, rfl⟩
       replace H : (some (y723, (([] : List Int)))) = some (r1, r2) := by first | (rw [hy723]; with_reducible exact H) | (have H2_ := (Option.bind_some _ _).symm.trans H; rw [hy723]; with_reducible exact H2_) | (have H2_ := (Option.bind_some _ _).symm.trans H; with_reducible exact H2_) | with_reducible exact H | (rw [hy723]; exact H) | exact H
       have Ny723 := Ad_.mk hy723
       clear hy723
       obtain ⟨y726, hy726⟩ : ∃ y_ : List Int, y_ = (([] : List Int)) := ⟨_, rfl⟩
       replace H : (some (y723, y726)) = some (r1, r2) := by first | (rw [hy726]; with_reducible exact H) | (have H2_ := (Option.bind_some _ _).symm.trans H; rw [hy726]; with_reducible exact H2_) | (have H2_ := (Option.bind_some _ _).symm.trans H; with_reducible exact H2_) | with_reducible exact H | (rw [hy726]; exact H) | exact H
       have Ny726 := Ad_.mk hy726
       clear hy726
       simp only [Option.some.injEq, Prod.mk.injEq] at H
       obtain ⟨rfl, rfl⟩ := H
       obtain ⟨hcz45_0, hcz45_1, hcz45_2, hcz45_3, hcz45_4, hcz45_5, hcz45_6⟩ := cells7_ BK686.out
       obtain ⟨hfz45_0, hfz45_1, hfz45_2, hfz45_3, hfz45_4, hfz45_5, hfz45_6⟩ := froz7_ BK686.out
       go_wp2_with (first | ((with_reducible refine gD_ (N := 53) rfl ?_); refine Kd.R_lit Kd.string _ 9 ?hg (N := 53) ?hd (xs := ([] : List ByteArray)) (inner := []) (ok := fun _ => True) (okp := fun _ => True) ?hr ?hp (fun _ hk => hk) trivial (Below.refl _ _) (Nat.le_refl _) (by simp) ?_; (case hd => rfl); (case hg => rfl); (case hr => first | (go_simp; done) | (go_simp; rfl)); (case hp => exact (Reps.none _ _)); intro v724 w46 ho47 hb hg_ hnew_; clear hg_ hnew_; (first | rw [← Ny723.out] at ho47 | (simp only [Int.reduceToNat] at ho47; rw [← Ny723.out] at ho47)); have n0_ := Ad_.mk (Kd.R_lower ho47 (bZ_ (by repeat (with_reducible first | exact HB.out | apply bA_ | apply bN_ | apply b1_ | refine bS_ ?_ GE686.out)))); have n1_ := Ad_.mk (blk_below (g := gb686) (o := .cells #[.int .i64 a0_0, .int .i64 a0_1, .int .i64 a0_2, .int .i64 a0_3, .int .i64 a0_4, .string a0_5, .string a0_6] 55 (0, 0)) (by (with_reducible repeat (first | refine kN_ ?_ _ | refine k1_ ?_ | refine kA_ ?_ _)); exact BK686.out) hb); have n2_ := Ad_.mk (bP_ (by repeat (with_reducible first | exact HB.out | apply bA_ | apply bN_ | apply b1_ | refine bS_ ?_ GE686.out)) hb); clear BK686; clear HB; have HO725 := n0_; have BK686 := n1_; have HB := n2_; clear n0_ n1_ n2_; clear hb ho47) | ((with_reducible refine gD_ (N := 54) rfl ?_); refine Kd.R_lit (Kd.int .i64) _ 3 ?hg (N := 54) ?hd (xs := ([] : List Int)) (inner := []) (ok := fun _ => True) (okp := fun _ => True) ?hr ?hp (fun _ hk => hk) trivial (Below.refl _ _) (Nat.le_refl _) (by simp) ?_; (case hd => rfl); (case hg => rfl); (case hr => first | (go_simp; done) | (go_simp; rfl)); (case hp => exact (Reps.none _ _)); intro v727 w48 ho49 hb hg_ hnew_; clear hg_ hnew_; (first | rw [← Ny726.out] at ho49 | (simp only [Int.reduceToNat] at ho49; rw [← Ny726.out] at ho49)); have n0_ := Ad_.mk (Kd.R_below (by (with_reducible repeat (first | apply Kd.R_alloc | apply Kd.R_drewN | apply Kd.R_drew)); exact HO725.out) hb); have n1_ := Ad_.mk (Kd.R_lower ho49 (bZ_ (by repeat (with_reducible first | exact HB.out | apply bA_ | apply bN_ | apply b1_ | refine bS_ ?_ GE686.out)))); have n2_ := Ad_.mk (blk_below (g := gb686) (o := .cells #[.int .i64 a0_0, .int .i64 a0_1, .int .i64 a0_2, .int .i64 a0_3, .int .i64 a0_4, .string a0_5, .string a0_6] 55 (0, 0)) (by (with_reducible repeat (first | refine kN_ ?_ _ | refine k1_ ?_ | refine kA_ ?_ _)); exact BK686.out) hb); have n3_ := Ad_.mk (bP_ (by repeat (with_reducible first | exact HB.out | apply bA_ | apply bN_ | apply b1_ | refine bS_ ?_ GE686.out)) hb); clear HO725; clear BK686; clear HB; have HO725 := n0_; have HO728 := n1_; have BK686 := n2_; have HB := n3_; clear n0_ n1_ n2_ n3_; clear hb ho49))
       go_ret2
       exact ⟨_, _, by first | rfl | (simp [errW_none, errW_some] <;> rfl) | (simp [*, errW_none, errW_some] <;> rfl), by (with_reducible repeat (first | apply Kd.R_alloc | apply Kd.R_drewN | apply Kd.R_drew)); exact HO725.out, by (with_reducible repeat (first | apply Kd.R_alloc | apply Kd.R_drewN | apply Kd.R_drew)); exact HO728.out, by repeat (with_reducible first | exact HB.out | apply bA_ | apply bN_ | apply b1_ | refine bS_ ?_ GE686.out)⟩
      rw [if_pos c39] at H
      have c39b0 : (a1 == a0_3) = true := beq_iff_eq.mpr c39
      have c39b1 : (a1 != a0_3) = false := bne_eq_false_iff_eq.mpr c39
      clear c39
      obtain ⟨y717, hy717⟩ : ∃ y_ : List ByteArray, y_ = (([a0_6, a0_5] : List ByteArray)) := ⟨_, rfl⟩
      replace H : (some (y717, (([1, 0] : List Int)))) = some (r1, r2) := by first | (rw [hy717]; with_reducible exact H) | (have H2_ := (Option.bind_some _ _).symm.trans H; rw [hy717]; with_reducible exact H2_) | (have H2_ := (Option.bind_some _ _).symm.trans H; with_reducible exact H2_) | with_reducible exact H | (rw [hy717]; exact H) | exact H
      have Ny717 := Ad_.mk hy717
      clear hy717
      obtain ⟨y720, hy720⟩ : ∃ y_ : List Int, y_ = (([1, 0] : List Int)) := ⟨_, rfl⟩
      replace H : (some (y717, y720)) = some (r1, r2) := by first | (rw [hy720]; with_reducible exact H) | (have H2_ := (Option.bind_some _ _).symm.trans H; rw [hy720]; with_reducible exact H2_) | (have H2_ := (Option.bind_some _ _).symm.trans H; with_reducible exact H2_) | with_reducible exact H | (rw [hy720]; exact H) | exact H
      have Ny720 := Ad_.mk hy720
      clear hy720
      simp only [Option.some.injEq, Prod.mk.injEq] at H
      obtain ⟨rfl, rfl⟩ := H
      obtain ⟨hcz40_0, hcz40_1, hcz40_2, hcz40_3, hcz40_4, hcz40_5, hcz40_6⟩ := cells7_ BK686.out
      obtain ⟨hfz40_0, hfz40_1, hfz40_2, hfz40_3, hfz40_4, hfz40_5, hfz40_6⟩ := froz7_ BK686.out
      go_wp2_with (first | ((with_reducible refine gD_ (N := 51) rfl ?_); refine Kd.R_lit Kd.string _ 9 ?hg (N := 51) ?hd (xs := ([a0_6, a0_5] : List ByteArray)) (inner := [.string a0_6, .string a0_5]) (ok := fun _ => True) (okp := fun _ => True) ?hr ?hp (fun _ hk => hk) trivial (Below.refl _ _) (Nat.le_refl _) (by simp) ?_; (case hd => rfl); (case hg => rfl); (case hr => first | (go_simp; done) | (go_simp; rfl)); (case hp => exact (Reps.one (show Kd.M Kd.string _ _ _ a0_6 [.string a0_6] from rfl) (Reps.one (show Kd.M Kd.string _ _ _ a0_5 [.string a0_5] from rfl) (Reps.none _ _)))); intro v718 w41 ho42 hb hg_ hnew_; clear hg_ hnew_; (first | rw [← Ny717.out] at ho42 | (simp only [Int.reduceToNat] at ho42; rw [← Ny717.out] at ho42)); have n0_ := Ad_.mk (Kd.R_lower ho42 (bZ_ (by repeat (with_reducible first | exact HB.out | apply bA_ | apply bN_ | apply b1_ | refine bS_ ?_ GE686.out)))); have n1_ := Ad_.mk (blk_below (g := gb686) (o := .cells #[.int .i64 a0_0, .int .i64 a0_1, .int .i64 a0_2, .int .i64 a0_3, .int .i64 a0_4, .string a0_5, .string a0_6] 55 (0, 0)) (by (with_reducible repeat (first | refine kN_ ?_ _ | refine k1_ ?_ | refine kA_ ?_ _)); exact BK686.out) hb); have n2_ := Ad_.mk (bP_ (by repeat (with_reducible first | exact HB.out | apply bA_ | apply bN_ | apply b1_ | refine bS_ ?_ GE686.out)) hb); clear BK686; clear HB; have HO719 := n0_; have BK686 := n1_; have HB := n2_; clear n0_ n1_ n2_; clear hb ho42) | ((with_reducible refine gD_ (N := 52) rfl ?_); refine Kd.R_lit (Kd.int .i64) _ 3 ?hg (N := 52) ?hd (xs := ([1, 0] : List Int)) (inner := [.int .i64 1, .int .i64 0]) (ok := fun _ => True) (okp := fun _ => True) ?hr ?hp (fun _ hk => hk) trivial (Below.refl _ _) (Nat.le_refl _) (by simp) ?_; (case hd => rfl); (case hg => rfl); (case hr => first | (go_simp; done) | (go_simp; rfl)); (case hp => exact (Reps.one (show Kd.M (Kd.int .i64) _ _ _ 1 [.int .i64 1] from rfl) (Reps.one (show Kd.M (Kd.int .i64) _ _ _ 0 [.int .i64 0] from rfl) (Reps.none _ _)))); intro v721 w43 ho44 hb hg_ hnew_; clear hg_ hnew_; (first | rw [← Ny720.out] at ho44 | (simp only [Int.reduceToNat] at ho44; rw [← Ny720.out] at ho44)); have n0_ := Ad_.mk (Kd.R_below (by (with_reducible repeat (first | apply Kd.R_alloc | apply Kd.R_drewN | apply Kd.R_drew)); exact HO719.out) hb); have n1_ := Ad_.mk (Kd.R_lower ho44 (bZ_ (by repeat (with_reducible first | exact HB.out | apply bA_ | apply bN_ | apply b1_ | refine bS_ ?_ GE686.out)))); have n2_ := Ad_.mk (blk_below (g := gb686) (o := .cells #[.int .i64 a0_0, .int .i64 a0_1, .int .i64 a0_2, .int .i64 a0_3, .int .i64 a0_4, .string a0_5, .string a0_6] 55 (0, 0)) (by (with_reducible repeat (first | refine kN_ ?_ _ | refine k1_ ?_ | refine kA_ ?_ _)); exact BK686.out) hb); have n3_ := Ad_.mk (bP_ (by repeat (with_reducible first | exact HB.out | apply bA_ | apply bN_ | apply b1_ | refine bS_ ?_ GE686.out)) hb); clear HO719; clear BK686; clear HB; have HO719 := n0_; have HO722 := n1_; have BK686 := n2_; have HB := n3_; clear n0_ n1_ n2_ n3_; clear hb ho44))
      go_ret2
      exact ⟨_, _, by first | rfl | (simp [errW_none, errW_some] <;> rfl) | (simp [*, errW_none, errW_some] <;> rfl), by (with_reducible repeat (first | apply Kd.R_alloc | apply Kd.R_drewN | apply Kd.R_drew)); exact HO719.out, by (with_reducible repeat (first | apply Kd.R_alloc | apply Kd.R_drewN | apply Kd.R_drew)); exact HO722.out, by repeat (with_reducible first | exact HB.out | apply bA_ | apply bN_ | apply b1_ | refine bS_ ?_ GE686.out)⟩
end Go.Proofs.YtfmlamheflbgdaaDoor.PAll
end
section
namespace Go.Proofs.YtfmlamheflbgdaaDoor.PAll
open Go.RowKit Go.Proofs.YtfmlamheflbgdaaDoorW.PrintWords Go.Proofs.YtfmlamheflbgdaaDoorW.PrintLast Go.Proofs.YtfmlamheflbgdaaDoorW.PrintMore
attribute [local go_sem] max2_int min2_int max_two min_two max_three min_three max_four min_four
set_option linter.unusedVariables false
set_option linter.unusedSimpArgs false
mutual
def spec_BinderOf.j0 : Nat → List (S55) → Int → Bool → Int → Int → Option (Int × Int)
  | 0, _, _, _, _, _ => none
  | k + 1, x0, x1, x30, x737000, x737001 => if x30 = true then (some (x737000, x737001)) else ((spec_ParentOf.f k x0 x1).bind fun t740 => (spec_BinderOf.l0 k x0 x1 x1 t740 x737000 x737001))
def spec_BinderOf.l0 : Nat → List (S55) → Int → Int → Int → Int → Int → Option (Int × Int)
  | 0, _, _, _, _, _, _ => none
  | k + 1, x0, x1, x6, x7, x737000, x737001 => if x7 ≥ 0 then (if 0 ≤ x7 then (if x7 < (x0.length : Int) then ((spec_l6Bound.f k ((rd_T55 x0 x7).f0) ((rd_T55 x0 x7).f1) ((rd_T55 x0 x7).f2) ((rd_T55 x0 x7).f3) ((rd_T55 x0 x7).f4) ((rd_T55 x0 x7).f5) ((rd_T55 x0 x7).f6) x6).bind fun bt742 => (spec_BinderOf.l1 k x0 x1 x7 bt742.1 bt742.2 0 x737000 x737001)) else (none)) else (none)) else (some (x737000, x737001))
def spec_BinderOf.l1 : Nat → List (S55) → Int → Int → List ByteArray → List Int → Int → Int → Int → Option (Int × Int)
  | 0, _, _, _, _, _, _, _, _ => none
  | k + 1, x0, x1, x7, x8, x9, x10, x737000, x737001 => if x10 < (x8.length : Int) then (if 0 ≤ x10 then (if 0 ≤ x1 then (if x1 < (x0.length : Int) then (if (rdOf ByteArray.empty x8 x10).toList = ((rd_T55 x0 x1).f5).toList then (if x10 < (x9.length : Int) then (some (x7, rd x9 x10)) else (none)) else (spec_BinderOf.l1 k x0 x1 x7 x8 x9 (wrap64 (x10 + 1)) x737000 x737001)) else (none)) else (none)) else (none)) else ((spec_ParentOf.f k x0 x7).bind fun t751 => (spec_BinderOf.l0 k x0 x1 x7 t751 x737000 x737001))
end
def spec_BinderOf.f (k : Nat) (l0 : List (S55)) (a1 : Int) : Option (Int × Int) := (spec_NodesOk.f k l0).bind fun t737 => (if t737 = true then ((spec_l1In.f a1 0 (wrap64 ((l0.length : Int) - 1))).bind fun t738 => (if t738 = true then (if 0 ≤ a1 then (if a1 < (l0.length : Int) then (spec_BinderOf.j0 k l0 a1 (((rd_T55 l0 a1).f0) != 1) (-1) (-1)) else (none)) else (none)) else (spec_BinderOf.j0 k l0 a1 true (-1) (-1)))) else (spec_BinderOf.j0 k l0 a1 true (-1) (-1)))
theorem spec_BinderOf.mono_l : ∀ k, (∀ y0 y1 y2 y3 y4, LeO (spec_BinderOf.j0 k y0 y1 y2 y3 y4) (spec_BinderOf.j0 (k + 1) y0 y1 y2 y3 y4)) ∧ (∀ y0 y1 y2 y3 y4 y5, LeO (spec_BinderOf.l0 k y0 y1 y2 y3 y4 y5) (spec_BinderOf.l0 (k + 1) y0 y1 y2 y3 y4 y5)) ∧ (∀ y0 y1 y2 y3 y4 y5 y6 y7, LeO (spec_BinderOf.l1 k y0 y1 y2 y3 y4 y5 y6 y7) (spec_BinderOf.l1 (k + 1) y0 y1 y2 y3 y4 y5 y6 y7))
  | 0 => ⟨fun _ _ _ _ _ r h => by simp [spec_BinderOf.j0] at h, fun _ _ _ _ _ _ r h => by simp [spec_BinderOf.l0] at h, fun _ _ _ _ _ _ _ _ r h => by simp [spec_BinderOf.l1] at h⟩
  | k + 1 => by
    obtain ⟨ih0, ih1, ih2⟩ := spec_BinderOf.mono_l k
    refine ⟨?_, ?_, ?_⟩
    (intro y0 y1 y2 y3 y4; unfold spec_BinderOf.j0; rotate_left)
    (intro y0 y1 y2 y3 y4 y5; unfold spec_BinderOf.l0; rotate_left)
    (intro y0 y1 y2 y3 y4 y5 y6 y7; unfold spec_BinderOf.l1; rotate_left)
    all_goals
      repeat' first
      | (with_reducible exact ih0 _ _ _ _ _)
      | (with_reducible exact ih1 _ _ _ _ _ _)
      | (with_reducible exact ih2 _ _ _ _ _ _ _ _)
      | (with_reducible exact spec_NodesOk.mono _ _)
      | (with_reducible exact spec_ParentOf.mono _ _ _)
      | (with_reducible exact spec_l6Bound.mono _ _ _ _ _ _ _ _ _)
      | (with_reducible exact LeO.refl _)
      | (with_reducible exact LeO.none _)
      | (with_reducible refine LeO.ite ?_ ?_)
      | (with_reducible refine LeO.bind ?_ (fun _ => ?_))
      | exact LeO.none _
      | refine LeO.ite ?_ ?_
      | refine LeO.bind ?_ (fun _ => ?_)
theorem spec_BinderOf.mono : ∀ a0 a1 k, LeO (spec_BinderOf.f k a0 a1) (spec_BinderOf.f (k + 1) a0 a1) := by
  intro a0 a1 k
  obtain ⟨ih0, ih1, ih2⟩ := spec_BinderOf.mono_l k
  unfold spec_BinderOf.f
  repeat' first
      | (with_reducible exact ih0 _ _ _ _ _)
      | (with_reducible exact ih1 _ _ _ _ _ _)
      | (with_reducible exact ih2 _ _ _ _ _ _ _ _)
      | (with_reducible exact spec_NodesOk.mono _ _)
      | (with_reducible exact spec_ParentOf.mono _ _ _)
      | (with_reducible exact spec_l6Bound.mono _ _ _ _ _ _ _ _ _)
      | (with_reducible exact LeO.refl _)
      | (with_reducible exact LeO.none _)
      | (with_reducible refine LeO.ite ?_ ?_)
      | (with_reducible refine LeO.bind ?_ (fun _ => ?_))
      | exact LeO.none _
      | refine LeO.ite ?_ ?_
      | refine LeO.bind ?_ (fun _ => ?_)
set_option maxHeartbeats 8000000 in
set_option maxRecDepth 100000 in
theorem spec_BinderOf.calls (k : Nat) (A0 : Option Addr) (c0 : Nat) (l0 : List (S55)) (a1 : Int) (r1 : Int) (r2 : Int) (w : World) (hr0 : Kd.C k55 w A0 l0.length l0) (hc0 : l0.length ≤ c0) (h : spec_BinderOf.f k l0 a1 = some (r1, r2)) :
    Calls Tryd.prog 83 #[.slice A0 l0.length c0, .int .i64 a1] w fun e w' => e = .returned (.agg #[.int .i64 r1, .int .i64 r2]) ∧ Below w.heap.size w w' := by
  have hu59 := Tryd.underlying59
  have hu55 := Tryd.underlying55
  have HR0 := Ad_.mk hr0
  have HC0 := Ad_.mk hc0
  clear hr0 hc0
  have HB := Ad_.mk (Below.refl w.heap.size w)
  have H := h
  unfold spec_BinderOf.f at H
  clear h
  have HC3 := Ad_.mk H
  clear H
  go_enter Tryd.func83, Tryd.ntmps83
  go_upto_region 2 with (first | ((with_reducible refine gD_ (N := 4) rfl ?_); (try (refine gate_guard (by rfl) ?_; dsimp only)); refine bE_ ?hg (N := 4) ?hd (cs := #[.int .i64 0, .int .i64 0]) (t := 59) ?hr ?_; (case hd => rfl); (case hg => rfl); (case hr => first | (go_simp; done) | (go_simp; rfl)); intro gb735 hg w4 hbox hb; have n0_ := Ad_.mk (bP_ (by repeat (with_reducible first | exact HB.out | apply bA_ | apply bN_ | apply b1_)) hb); have n1_ := Ad_.mk (hbox); have n2_ := Ad_.mk ((by rw [hg]; exact (bZ_ (by repeat (with_reducible first | exact HB.out | apply bA_ | apply bN_ | apply b1_))) : w.heap.size ≤ gb735)); have n3_ := Ad_.mk ((by rw [hg]; exact (bZ_ (by repeat (with_reducible first | exact HB.out | apply bA_ | apply bN_ | apply b1_))) : w.heap.size ≤ gb735)); clear HB; have HB := n0_; have BK735 := n1_; have GW735 := n2_; have GE735 := n3_; clear n0_ n1_ n2_ n3_; clear hb hbox hg) | ((with_reducible refine gD_ (N := 5) rfl ?_); (try (refine gate_guard (by rfl) ?_; dsimp only)); refine bE_ ?hg (N := 5) ?hd (cs := #[.int .i64 0, .int .i64 0]) (t := 59) ?hr ?_; (case hd => rfl); (case hg => rfl); (case hr => first | (go_simp; done) | (go_simp; rfl)); intro gb736 hg w5 hbox hb; have n0_ := Ad_.mk (blk_below (g := gb735) (o := .cells #[.int .i64 0, .int .i64 0] 59 (0, 0)) (by (with_reducible repeat (first | refine kN_ ?_ _ | refine k1_ ?_ | refine kA_ ?_ _)); exact BK735.out) hb); have n1_ := Ad_.mk (bP_ (by repeat (with_reducible first | exact HB.out | apply bA_ | apply bN_ | apply b1_ | refine bS_ ?_ GE735.out)) hb); have n2_ := Ad_.mk (hbox); have n3_ := Ad_.mk ((by rw [hg]; exact (bZ_ (by repeat (with_reducible first | exact HB.out | apply bA_ | apply bN_ | apply b1_ | refine bS_ ?_ GE735.out))) : w.heap.size ≤ gb736)); have n4_ := Ad_.mk ((by rw [hg]; exact (bZ_ (by repeat (with_reducible first | exact HB.out | apply bA_ | apply bN_ | apply b1_ | refine bS_ ?_ GE735.out))) : w.heap.size ≤ gb736)); have n5_ := Ad_.mk ((by rw [hg]; exact Nat.ne_of_lt (blk_lt (g := gb735) (o := .cells #[.int .i64 0, .int .i64 0] 59 (0, 0)) (by (with_reducible repeat (first | refine kN_ ?_ _ | refine k1_ ?_ | refine kA_ ?_ _)); exact BK735.out)) : gb735 ≠ gb736)); have n6_ := Ad_.mk ((by rw [hg]; exact Nat.ne_of_gt (blk_lt (g := gb735) (o := .cells #[.int .i64 0, .int .i64 0] 59 (0, 0)) (by (with_reducible repeat (first | refine kN_ ?_ _ | refine k1_ ?_ | refine kA_ ?_ _)); exact BK735.out)) : gb736 ≠ gb735)); clear BK735; clear HB; have BK735 := n0_; have HB := n1_; have BK736 := n2_; have GW736 := n3_; have GE736 := n4_; have NB735_736 := n5_; have NB736_735 := n6_; clear n0_ n1_ n2_ n3_ n4_ n5_ n6_; clear hb hbox hg; have hnb6 := NB736_735.out; have hnc6 := NB735_736.out; obtain ⟨hcz7_0, hcz7_1⟩ := cells2_ BK736.out; obtain ⟨hfz7_0, hfz7_1⟩ := froz2_ BK736.out))
  repeat (go_quiet (first | ((with_reducible refine gD_ (N := 4) rfl ?_); (try (refine gate_guard (by rfl) ?_; dsimp only)); refine bE_ ?hg (N := 4) ?hd (cs := #[.int .i64 0, .int .i64 0]) (t := 59) ?hr ?_; (case hd => rfl); (case hg => rfl); (case hr => first | (go_simp; done) | (go_simp; rfl)); intro gb735 hg w4 hbox hb; have n0_ := Ad_.mk (bP_ (by repeat (with_reducible first | exact HB.out | apply bA_ | apply bN_ | apply b1_)) hb); have n1_ := Ad_.mk (hbox); have n2_ := Ad_.mk ((by rw [hg]; exact (bZ_ (by repeat (with_reducible first | exact HB.out | apply bA_ | apply bN_ | apply b1_))) : w.heap.size ≤ gb735)); have n3_ := Ad_.mk ((by rw [hg]; exact (bZ_ (by repeat (with_reducible first | exact HB.out | apply bA_ | apply bN_ | apply b1_))) : w.heap.size ≤ gb735)); clear HB; have HB := n0_; have BK735 := n1_; have GW735 := n2_; have GE735 := n3_; clear n0_ n1_ n2_ n3_; clear hb hbox hg) | ((with_reducible refine gD_ (N := 5) rfl ?_); (try (refine gate_guard (by rfl) ?_; dsimp only)); refine bE_ ?hg (N := 5) ?hd (cs := #[.int .i64 0, .int .i64 0]) (t := 59) ?hr ?_; (case hd => rfl); (case hg => rfl); (case hr => first | (go_simp; done) | (go_simp; rfl)); intro gb736 hg w5 hbox hb; have n0_ := Ad_.mk (blk_below (g := gb735) (o := .cells #[.int .i64 0, .int .i64 0] 59 (0, 0)) (by (with_reducible repeat (first | refine kN_ ?_ _ | refine k1_ ?_ | refine kA_ ?_ _)); exact BK735.out) hb); have n1_ := Ad_.mk (bP_ (by repeat (with_reducible first | exact HB.out | apply bA_ | apply bN_ | apply b1_ | refine bS_ ?_ GE735.out)) hb); have n2_ := Ad_.mk (hbox); have n3_ := Ad_.mk ((by rw [hg]; exact (bZ_ (by repeat (with_reducible first | exact HB.out | apply bA_ | apply bN_ | apply b1_ | refine bS_ ?_ GE735.out))) : w.heap.size ≤ gb736)); have n4_ := Ad_.mk ((by rw [hg]; exact (bZ_ (by repeat (with_reducible first | exact HB.out | apply bA_ | apply bN_ | apply b1_ | refine bS_ ?_ GE735.out))) : w.heap.size ≤ gb736)); have n5_ := Ad_.mk ((by rw [hg]; exact Nat.ne_of_lt (blk_lt (g := gb735) (o := .cells #[.int .i64 0, .int .i64 0] 59 (0, 0)) (by (with_reducible repeat (first | refine kN_ ?_ _ | refine k1_ ?_ | refine kA_ ?_ _)); exact BK735.out)) : gb735 ≠ gb736)); have n6_ := Ad_.mk ((by rw [hg]; exact Nat.ne_of_gt (blk_lt (g := gb735) (o := .cells #[.int .i64 0, .int .i64 0] 59 (0, 0)) (by (with_reducible repeat (first | refine kN_ ?_ _ | refine k1_ ?_ | refine kA_ ?_ _)); exact BK735.out)) : gb736 ≠ gb735)); clear BK735; clear HB; have BK735 := n0_; have HB := n1_; have BK736 := n2_; have GW736 := n3_; have GE736 := n4_; have NB735_736 := n5_; have NB736_735 := n6_; clear n0_ n1_ n2_ n3_ n4_ n5_ n6_; clear hb hbox hg; have hnb6 := NB736_735.out; have hnc6 := NB735_736.out; obtain ⟨hcz7_0, hcz7_1⟩ := cells2_ BK736.out; obtain ⟨hfz7_0, hfz7_1⟩ := froz2_ BK736.out)); go_upto_region 2 with (first | ((with_reducible refine gD_ (N := 4) rfl ?_); (try (refine gate_guard (by rfl) ?_; dsimp only)); refine bE_ ?hg (N := 4) ?hd (cs := #[.int .i64 0, .int .i64 0]) (t := 59) ?hr ?_; (case hd => rfl); (case hg => rfl); (case hr => first | (go_simp; done) | (go_simp; rfl)); intro gb735 hg w4 hbox hb; have n0_ := Ad_.mk (bP_ (by repeat (with_reducible first | exact HB.out | apply bA_ | apply bN_ | apply b1_)) hb); have n1_ := Ad_.mk (hbox); have n2_ := Ad_.mk ((by rw [hg]; exact (bZ_ (by repeat (with_reducible first | exact HB.out | apply bA_ | apply bN_ | apply b1_))) : w.heap.size ≤ gb735)); have n3_ := Ad_.mk ((by rw [hg]; exact (bZ_ (by repeat (with_reducible first | exact HB.out | apply bA_ | apply bN_ | apply b1_))) : w.heap.size ≤ gb735)); clear HB; have HB := n0_; have BK735 := n1_; have GW735 := n2_; have GE735 := n3_; clear n0_ n1_ n2_ n3_; clear hb hbox hg) | ((with_reducible refine gD_ (N := 5) rfl ?_); (try (refine gate_guard (by rfl) ?_; dsimp only)); refine bE_ ?hg (N := 5) ?hd (cs := #[.int .i64 0, .int .i64 0]) (t := 59) ?hr ?_; (case hd => rfl); (case hg => rfl); (case hr => first | (go_simp; done) | (go_simp; rfl)); intro gb736 hg w5 hbox hb; have n0_ := Ad_.mk (blk_below (g := gb735) (o := .cells #[.int .i64 0, .int .i64 0] 59 (0, 0)) (by (with_reducible repeat (first | refine kN_ ?_ _ | refine k1_ ?_ | refine kA_ ?_ _)); exact BK735.out) hb); have n1_ := Ad_.mk (bP_ (by repeat (with_reducible first | exact HB.out | apply bA_ | apply bN_ | apply b1_ | refine bS_ ?_ GE735.out)) hb); have n2_ := Ad_.mk (hbox); have n3_ := Ad_.mk ((by rw [hg]; exact (bZ_ (by repeat (with_reducible first | exact HB.out | apply bA_ | apply bN_ | apply b1_ | refine bS_ ?_ GE735.out))) : w.heap.size ≤ gb736)); have n4_ := Ad_.mk ((by rw [hg]; exact (bZ_ (by repeat (with_reducible first | exact HB.out | apply bA_ | apply bN_ | apply b1_ | refine bS_ ?_ GE735.out))) : w.heap.size ≤ gb736)); have n5_ := Ad_.mk ((by rw [hg]; exact Nat.ne_of_lt (blk_lt (g := gb735) (o := .cells #[.int .i64 0, .int .i64 0] 59 (0, 0)) (by (with_reducible repeat (first | refine kN_ ?_ _ | refine k1_ ?_ | refine kA_ ?_ _)); exact BK735.out)) : gb735 ≠ gb736)); have n6_ := Ad_.mk ((by rw [hg]; exact Nat.ne_of_gt (blk_lt (g := gb735) (o := .cells #[.int .i64 0, .int .i64 0] 59 (0, 0)) (by (with_reducible repeat (first | refine kN_ ?_ _ | refine k1_ ?_ | refine kA_ ?_ _)); exact BK735.out)) : gb736 ≠ gb735)); clear BK735; clear HB; have BK735 := n0_; have HB := n1_; have BK736 := n2_; have GW736 := n3_; have GE736 := n4_; have NB735_736 := n5_; have NB736_735 := n6_; clear n0_ n1_ n2_ n3_ n4_ n5_ n6_; clear hb hbox hg; have hnb6 := NB736_735.out; have hnc6 := NB735_736.out; obtain ⟨hcz7_0, hcz7_1⟩ := cells2_ BK736.out; obtain ⟨hfz7_0, hfz7_1⟩ := froz2_ BK736.out)))
  (try simp only [Act.put, List.setIfInBounds_toArray, List.set_cons_zero, List.set_cons_succ])
  go_cut [30] (fun v30 wc => ∃ (kq : Nat) (x30_2 : Bool), v30 = .bool x30_2 ∧ Ad_ (spec_BinderOf.j0 kq l0 a1 x30_2 (-1) (-1) = some (r1, r2)) ∧ Ad_ (kq ≤ k) ∧ Ad_ (wc.heap[gb735]? = some (.cells #[.int .i64 0, .int .i64 0] 59 (0, 0))) ∧ Ad_ (wc.heap[gb736]? = some (.cells #[.int .i64 (-1), .int .i64 (-1)] 59 (0, 0))) ∧ Ad_ (Below w.heap.size w wc))
  case first =>
    have H := HC3.out
    clear HC3
    replace H := Option.bind_eq_some_iff.mp H
    obtain ⟨t737, A80, H⟩ := H
    try dsimp only at H
    have A8 := Ad_.mk A80
    clear A80
    by_cases c9 : t737 = true
    rotate_left
    ·
     replace c9 := Bool.eq_false_iff.mpr c9
     subst c9
     have H1 : (spec_BinderOf.j0 k l0 a1 true (-1) (-1)) = some (r1, r2) := by rw [if_neg (show ¬ (false = true) by decide)] at H; exact H
     clear H
     have H := H1
     clear H1
     have H' := Ad_.mk H
     clear H
     go_wp2_with (first | (go_at_call 49; (with_reducible refine (spec_NodesOk.calls k _ _ l0 false _ ?side1 ?side2 A8.out).mono ?_); (case side1 => exact Kd.C_below HR0.out (by repeat (with_reducible first | exact HB.out | apply bA_ | apply bN_ | apply b1_ | refine bS_ ?_ GE735.out | refine bS_ ?_ GE736.out))); (case side2 => exact HC0.out); rintro e w16 ⟨rfl, hb⟩; have n0_ := Ad_.mk (blk_below (g := gb735) (o := .cells #[.int .i64 0, .int .i64 0] 59 (0, 0)) (by (with_reducible repeat (first | refine kN_ ?_ _ | refine k1_ ?_ | refine kA_ ?_ _)); refine blk_far ?_ NB735_736.out _; (with_reducible repeat (first | refine kN_ ?_ _ | refine k1_ ?_ | refine kA_ ?_ _)); refine blk_far ?_ NB735_736.out _; (with_reducible repeat (first | refine kN_ ?_ _ | refine k1_ ?_ | refine kA_ ?_ _)); exact BK735.out) hb); have n1_ := Ad_.mk (blk_below (g := gb736) (o := .cells #[.int .i64 (-1), .int .i64 (-1)] 59 (0, 0)) (by (with_reducible repeat (first | refine kN_ ?_ _ | refine k1_ ?_ | refine kA_ ?_ _)); refine blk_put (cs := #[.int .i64 (-1), .int .i64 0]) ?_ 1 _ rfl; (with_reducible repeat (first | refine kN_ ?_ _ | refine k1_ ?_ | refine kA_ ?_ _)); refine blk_put (cs := #[.int .i64 0, .int .i64 0]) ?_ 0 _ rfl; (with_reducible repeat (first | refine kN_ ?_ _ | refine k1_ ?_ | refine kA_ ?_ _)); exact BK736.out) hb); have n2_ := Ad_.mk (bP_ (by repeat (with_reducible first | exact HB.out | apply bA_ | apply bN_ | apply b1_ | refine bS_ ?_ GE735.out | refine bS_ ?_ GE736.out)) hb); clear BK735; clear BK736; clear HB; have BK735 := n0_; have BK736 := n1_; have HB := n2_; clear n0_ n1_ n2_; (try clear hb); (try clear hb2); (try clear hk); (try clear hi)))
     repeat (go_quiet (first | (go_at_call 49; (with_reducible refine (spec_NodesOk.calls k _ _ l0 false _ ?side1 ?side2 A8.out).mono ?_); (case side1 => exact Kd.C_below HR0.out (by repeat (with_reducible first | exact HB.out | apply bA_ | apply bN_ | apply b1_ | refine bS_ ?_ GE735.out | refine bS_ ?_ GE736.out))); (case side2 => exact HC0.out); rintro e w16 ⟨rfl, hb⟩; have n0_ := Ad_.mk (blk_below (g := gb735) (o := .cells #[.int .i64 0, .int .i64 0] 59 (0, 0)) (by (with_reducible repeat (first | refine kN_ ?_ _ | refine k1_ ?_ | refine kA_ ?_ _)); refine blk_far ?_ NB735_736.out _; (with_reducible repeat (first | refine kN_ ?_ _ | refine k1_ ?_ | refine kA_ ?_ _)); refine blk_far ?_ NB735_736.out _; (with_reducible repeat (first | refine kN_ ?_ _ | refine k1_ ?_ | refine kA_ ?_ _)); exact BK735.out) hb); have n1_ := Ad_.mk (blk_below (g := gb736) (o := .cells #[.int .i64 (-1), .int .i64 (-1)] 59 (0, 0)) (by (with_reducible repeat (first | refine kN_ ?_ _ | refine k1_ ?_ | refine kA_ ?_ _)); refine blk_put (cs := #[.int .i64 (-1), .int .i64 0]) ?_ 1 _ rfl; (with_reducible repeat (first | refine kN_ ?_ _ | refine k1_ ?_ | refine kA_ ?_ _)); refine blk_put (cs := #[.int .i64 0, .int .i64 0]) ?_ 0 _ rfl; (with_reducible repeat (first | refine kN_ ?_ _ | refine k1_ ?_ | refine kA_ ?_ _)); exact BK736.out) hb); have n2_ := Ad_.mk (bP_ (by repeat (with_reducible first | exact HB.out | apply bA_ | apply bN_ | apply b1_ | refine bS_ ?_ GE735.out | refine bS_ ?_ GE736.out)) hb); clear BK735; clear BK736; clear HB; have BK735 := n0_; have BK736 := n1_; have HB := n2_; clear n0_ n1_ n2_; (try clear hb); (try clear hb2); (try clear hk); (try clear hi))); try go_wp2_with (first | (go_at_call 49; (with_reducible refine (spec_NodesOk.calls k _ _ l0 false _ ?side1 ?side2 A8.out).mono ?_); (case side1 => exact Kd.C_below HR0.out (by repeat (with_reducible first | exact HB.out | apply bA_ | apply bN_ | apply b1_ | refine bS_ ?_ GE735.out | refine bS_ ?_ GE736.out))); (case side2 => exact HC0.out); rintro e w16 ⟨rfl, hb⟩; have n0_ := Ad_.mk (blk_below (g := gb735) (o := .cells #[.int .i64 0, .int .i64 0] 59 (0, 0)) (by (with_reducible repeat (first | refine kN_ ?_ _ | refine k1_ ?_ | refine kA_ ?_ _)); refine blk_far ?_ NB735_736.out _; (with_reducible repeat (first | refine kN_ ?_ _ | refine k1_ ?_ | refine kA_ ?_ _)); refine blk_far ?_ NB735_736.out _; (with_reducible repeat (first | refine kN_ ?_ _ | refine k1_ ?_ | refine kA_ ?_ _)); exact BK735.out) hb); have n1_ := Ad_.mk (blk_below (g := gb736) (o := .cells #[.int .i64 (-1), .int .i64 (-1)] 59 (0, 0)) (by (with_reducible repeat (first | refine kN_ ?_ _ | refine k1_ ?_ | refine kA_ ?_ _)); refine blk_put (cs := #[.int .i64 (-1), .int .i64 0]) ?_ 1 _ rfl; (with_reducible repeat (first | refine kN_ ?_ _ | refine k1_ ?_ | refine kA_ ?_ _)); refine blk_put (cs := #[.int .i64 0, .int .i64 0]) ?_ 0 _ rfl; (with_reducible repeat (first | refine kN_ ?_ _ | refine k1_ ?_ | refine kA_ ?_ _)); exact BK736.out) hb); have n2_ := Ad_.mk (bP_ (by repeat (with_reducible first | exact HB.out | apply bA_ | apply bN_ | apply b1_ | refine bS_ ?_ GE735.out | refine bS_ ?_ GE736.out)) hb); clear BK735; clear BK736; clear HB; have BK735 := n0_; have BK736 := n1_; have HB := n2_; clear n0_ n1_ n2_; (try clear hb); (try clear hb2); (try clear hk); (try clear hi))))
     go_meet
     case rel => exact ⟨_, (true), fs_, H', ⟨by first | omega | exact Nat.le_refl _⟩, ⟨by (with_reducible repeat (first | refine kN_ ?_ _ | refine k1_ ?_ | refine kA_ ?_ _)); exact BK735.out⟩, ⟨by (with_reducible repeat (first | refine kN_ ?_ _ | refine k1_ ?_ | refine kA_ ?_ _)); exact BK736.out⟩, ⟨by repeat (with_reducible first | exact HB.out | apply bA_ | apply bN_ | apply b1_ | refine bS_ ?_ GE735.out | refine bS_ ?_ GE736.out)⟩⟩
    subst c9
    have H1 := H
    rw [if_pos rfl] at H1
    clear H
    have H := H1
    clear H1
    replace H := Option.bind_eq_some_iff.mp H
    obtain ⟨t738, A100, H⟩ := H
    try dsimp only at H
    have A10 := Ad_.mk A100
    clear A100
    by_cases c11 : t738 = true
    rotate_left
    ·
     replace c11 := Bool.eq_false_iff.mpr c11
     subst c11
     have H1 : (spec_BinderOf.j0 k l0 a1 true (-1) (-1)) = some (r1, r2) := by rw [if_neg (show ¬ (false = true) by decide)] at H; exact H
     clear H
     have H := H1
     clear H1
     have H' := Ad_.mk H
     clear H
     go_wp2_with (first | (go_at_call 49; (with_reducible refine (spec_NodesOk.calls k _ _ l0 true _ ?side1 ?side2 A8.out).mono ?_); (case side1 => exact Kd.C_below HR0.out (by repeat (with_reducible first | exact HB.out | apply bA_ | apply bN_ | apply b1_ | refine bS_ ?_ GE735.out | refine bS_ ?_ GE736.out))); (case side2 => exact HC0.out); rintro e w15 ⟨rfl, hb⟩; have n0_ := Ad_.mk (blk_below (g := gb735) (o := .cells #[.int .i64 0, .int .i64 0] 59 (0, 0)) (by (with_reducible repeat (first | refine kN_ ?_ _ | refine k1_ ?_ | refine kA_ ?_ _)); refine blk_far ?_ NB735_736.out _; (with_reducible repeat (first | refine kN_ ?_ _ | refine k1_ ?_ | refine kA_ ?_ _)); refine blk_far ?_ NB735_736.out _; (with_reducible repeat (first | refine kN_ ?_ _ | refine k1_ ?_ | refine kA_ ?_ _)); exact BK735.out) hb); have n1_ := Ad_.mk (blk_below (g := gb736) (o := .cells #[.int .i64 (-1), .int .i64 (-1)] 59 (0, 0)) (by (with_reducible repeat (first | refine kN_ ?_ _ | refine k1_ ?_ | refine kA_ ?_ _)); refine blk_put (cs := #[.int .i64 (-1), .int .i64 0]) ?_ 1 _ rfl; (with_reducible repeat (first | refine kN_ ?_ _ | refine k1_ ?_ | refine kA_ ?_ _)); refine blk_put (cs := #[.int .i64 0, .int .i64 0]) ?_ 0 _ rfl; (with_reducible repeat (first | refine kN_ ?_ _ | refine k1_ ?_ | refine kA_ ?_ _)); exact BK736.out) hb); have n2_ := Ad_.mk (bP_ (by repeat (with_reducible first | exact HB.out | apply bA_ | apply bN_ | apply b1_ | refine bS_ ?_ GE735.out | refine bS_ ?_ GE736.out)) hb); clear BK735; clear BK736; clear HB; have BK735 := n0_; have BK736 := n1_; have HB := n2_; clear n0_ n1_ n2_; (try clear hb); (try clear hb2); (try clear hk); (try clear hi)) | (go_at_call 68; (with_reducible refine (spec_l1In.calls a1 0 (wrap64 ((l0.length : Int) - 1)) false _ A10.out).mono ?_); rintro e w' ⟨rfl, ⟨nd, rfl⟩⟩; (try first | exact ⟨rfl, _, World.drewN_drewN _ _ _⟩ | exact ⟨rfl, _, Eq.trans (World.drewN_drewN _ _ _) (congrArg (World.drewN _) (Nat.add_assoc _ _ _))⟩)))
     repeat (go_quiet (first | (go_at_call 49; (with_reducible refine (spec_NodesOk.calls k _ _ l0 true _ ?side1 ?side2 A8.out).mono ?_); (case side1 => exact Kd.C_below HR0.out (by repeat (with_reducible first | exact HB.out | apply bA_ | apply bN_ | apply b1_ | refine bS_ ?_ GE735.out | refine bS_ ?_ GE736.out))); (case side2 => exact HC0.out); rintro e w15 ⟨rfl, hb⟩; have n0_ := Ad_.mk (blk_below (g := gb735) (o := .cells #[.int .i64 0, .int .i64 0] 59 (0, 0)) (by (with_reducible repeat (first | refine kN_ ?_ _ | refine k1_ ?_ | refine kA_ ?_ _)); refine blk_far ?_ NB735_736.out _; (with_reducible repeat (first | refine kN_ ?_ _ | refine k1_ ?_ | refine kA_ ?_ _)); refine blk_far ?_ NB735_736.out _; (with_reducible repeat (first | refine kN_ ?_ _ | refine k1_ ?_ | refine kA_ ?_ _)); exact BK735.out) hb); have n1_ := Ad_.mk (blk_below (g := gb736) (o := .cells #[.int .i64 (-1), .int .i64 (-1)] 59 (0, 0)) (by (with_reducible repeat (first | refine kN_ ?_ _ | refine k1_ ?_ | refine kA_ ?_ _)); refine blk_put (cs := #[.int .i64 (-1), .int .i64 0]) ?_ 1 _ rfl; (with_reducible repeat (first | refine kN_ ?_ _ | refine k1_ ?_ | refine kA_ ?_ _)); refine blk_put (cs := #[.int .i64 0, .int .i64 0]) ?_ 0 _ rfl; (with_reducible repeat (first | refine kN_ ?_ _ | refine k1_ ?_ | refine kA_ ?_ _)); exact BK736.out) hb); have n2_ := Ad_.mk (bP_ (by repeat (with_reducible first | exact HB.out | apply bA_ | apply bN_ | apply b1_ | refine bS_ ?_ GE735.out | refine bS_ ?_ GE736.out)) hb); clear BK735; clear BK736; clear HB; have BK735 := n0_; have BK736 := n1_; have HB := n2_; clear n0_ n1_ n2_; (try clear hb); (try clear hb2); (try clear hk); (try clear hi)) | (go_at_call 68; (with_reducible refine (spec_l1In.calls a1 0 (wrap64 ((l0.length : Int) - 1)) false _ A10.out).mono ?_); rintro e w' ⟨rfl, ⟨nd, rfl⟩⟩; (try first | exact ⟨rfl, _, World.drewN_drewN _ _ _⟩ | exact ⟨rfl, _, Eq.trans (World.drewN_drewN _ _ _) (congrArg (World.drewN _) (Nat.add_assoc _ _ _))⟩))); try go_wp2_with (first | (go_at_call 49; (with_reducible refine (spec_NodesOk.calls k _ _ l0 true _ ?side1 ?side2 A8.out).mono ?_); (case side1 => exact Kd.C_below HR0.out (by repeat (with_reducible first | exact HB.out | apply bA_ | apply bN_ | apply b1_ | refine bS_ ?_ GE735.out | refine bS_ ?_ GE736.out))); (case side2 => exact HC0.out); rintro e w15 ⟨rfl, hb⟩; have n0_ := Ad_.mk (blk_below (g := gb735) (o := .cells #[.int .i64 0, .int .i64 0] 59 (0, 0)) (by (with_reducible repeat (first | refine kN_ ?_ _ | refine k1_ ?_ | refine kA_ ?_ _)); refine blk_far ?_ NB735_736.out _; (with_reducible repeat (first | refine kN_ ?_ _ | refine k1_ ?_ | refine kA_ ?_ _)); refine blk_far ?_ NB735_736.out _; (with_reducible repeat (first | refine kN_ ?_ _ | refine k1_ ?_ | refine kA_ ?_ _)); exact BK735.out) hb); have n1_ := Ad_.mk (blk_below (g := gb736) (o := .cells #[.int .i64 (-1), .int .i64 (-1)] 59 (0, 0)) (by (with_reducible repeat (first | refine kN_ ?_ _ | refine k1_ ?_ | refine kA_ ?_ _)); refine blk_put (cs := #[.int .i64 (-1), .int .i64 0]) ?_ 1 _ rfl; (with_reducible repeat (first | refine kN_ ?_ _ | refine k1_ ?_ | refine kA_ ?_ _)); refine blk_put (cs := #[.int .i64 0, .int .i64 0]) ?_ 0 _ rfl; (with_reducible repeat (first | refine kN_ ?_ _ | refine k1_ ?_ | refine kA_ ?_ _)); exact BK736.out) hb); have n2_ := Ad_.mk (bP_ (by repeat (with_reducible first | exact HB.out | apply bA_ | apply bN_ | apply b1_ | refine bS_ ?_ GE735.out | refine bS_ ?_ GE736.out)) hb); clear BK735; clear BK736; clear HB; have BK735 := n0_; have BK736 := n1_; have HB := n2_; clear n0_ n1_ n2_; (try clear hb); (try clear hb2); (try clear hk); (try clear hi)) | (go_at_call 68; (with_reducible refine (spec_l1In.calls a1 0 (wrap64 ((l0.length : Int) - 1)) false _ A10.out).mono ?_); rintro e w' ⟨rfl, ⟨nd, rfl⟩⟩; (try first | exact ⟨rfl, _, World.drewN_drewN _ _ _⟩ | exact ⟨rfl, _, Eq.trans (World.drewN_drewN _ _ _) (congrArg (World.drewN _) (Nat.add_assoc _ _ _))⟩))))
     go_meet
     case rel => exact ⟨_, (true), fs_, H', ⟨by first | omega | exact Nat.le_refl _⟩, ⟨by (with_reducible repeat (first | refine kN_ ?_ _ | refine k1_ ?_ | refine kA_ ?_ _)); exact BK735.out⟩, ⟨by (with_reducible repeat (first | refine kN_ ?_ _ | refine k1_ ?_ | refine kA_ ?_ _)); exact BK736.out⟩, ⟨by repeat (with_reducible first | exact HB.out | apply bA_ | apply bN_ | apply b1_ | refine bS_ ?_ GE735.out | refine bS_ ?_ GE736.out)⟩⟩
    subst c11
    have H1 := H
    rw [if_pos rfl] at H1
    clear H
    have H := H1
    clear H1
    by_cases c12 : 0 ≤ a1
    rotate_left
    ·
     rw [if_neg c12] at H
     exact absurd H (by simp)
    rw [if_pos c12] at H
    have c12b0 := decide_eq_true c12
    clear c12
    (first | rw [c12b0] | (simp only [i64_w, i32_w]; rw [c12b0]) | skip)
    by_cases c13 : a1 < (l0.length : Int)
    rotate_left
    ·
     rw [if_neg c13] at H
     exact absurd H (by simp)
    rw [if_pos c13] at H
    have c13b0 := decide_eq_true c13
    clear c13
    have H' := Ad_.mk H
    clear H
    go_wp2_with (first | (go_at_call 49; (with_reducible refine (spec_NodesOk.calls k _ _ l0 true _ ?side1 ?side2 A8.out).mono ?_); (case side1 => exact Kd.C_below HR0.out (by repeat (with_reducible first | exact HB.out | apply bA_ | apply bN_ | apply b1_ | refine bS_ ?_ GE735.out | refine bS_ ?_ GE736.out))); (case side2 => exact HC0.out); rintro e w14 ⟨rfl, hb⟩; have n0_ := Ad_.mk (blk_below (g := gb735) (o := .cells #[.int .i64 0, .int .i64 0] 59 (0, 0)) (by (with_reducible repeat (first | refine kN_ ?_ _ | refine k1_ ?_ | refine kA_ ?_ _)); refine blk_far ?_ NB735_736.out _; (with_reducible repeat (first | refine kN_ ?_ _ | refine k1_ ?_ | refine kA_ ?_ _)); refine blk_far ?_ NB735_736.out _; (with_reducible repeat (first | refine kN_ ?_ _ | refine k1_ ?_ | refine kA_ ?_ _)); exact BK735.out) hb); have n1_ := Ad_.mk (blk_below (g := gb736) (o := .cells #[.int .i64 (-1), .int .i64 (-1)] 59 (0, 0)) (by (with_reducible repeat (first | refine kN_ ?_ _ | refine k1_ ?_ | refine kA_ ?_ _)); refine blk_put (cs := #[.int .i64 (-1), .int .i64 0]) ?_ 1 _ rfl; (with_reducible repeat (first | refine kN_ ?_ _ | refine k1_ ?_ | refine kA_ ?_ _)); refine blk_put (cs := #[.int .i64 0, .int .i64 0]) ?_ 0 _ rfl; (with_reducible repeat (first | refine kN_ ?_ _ | refine k1_ ?_ | refine kA_ ?_ _)); exact BK736.out) hb); have n2_ := Ad_.mk (bP_ (by repeat (with_reducible first | exact HB.out | apply bA_ | apply bN_ | apply b1_ | refine bS_ ?_ GE735.out | refine bS_ ?_ GE736.out)) hb); clear BK735; clear BK736; clear HB; have BK735 := n0_; have BK736 := n1_; have HB := n2_; clear n0_ n1_ n2_; (try clear hb); (try clear hb2); (try clear hk); (try clear hi)) | (go_at_call 68; (with_reducible refine (spec_l1In.calls a1 0 (wrap64 ((l0.length : Int) - 1)) true _ A10.out).mono ?_); rintro e w' ⟨rfl, ⟨nd, rfl⟩⟩; (try first | exact ⟨rfl, _, World.drewN_drewN _ _ _⟩ | exact ⟨rfl, _, Eq.trans (World.drewN_drewN _ _ _) (congrArg (World.drewN _) (Nat.add_assoc _ _ _))⟩); have p739 : 0 ≤ (a1 : Int) := od_; have q739 : a1 < (l0.length : Int) := od_; obtain ⟨ad739, e739, hx739_0, hx739_1, hx739_2, hx739_3, hx739_4, hx739_5, hx739_6⟩ := at_T55 HR0.out a1 p739 q739; cases e739; replace hx739_0 := pB_ HB.out hx739_0; replace hx739_1 := pB_ HB.out hx739_1; replace hx739_2 := pB_ HB.out hx739_2; replace hx739_3 := pB_ HB.out hx739_3; replace hx739_4 := pB_ HB.out hx739_4; replace hx739_5 := pB_ HB.out hx739_5; replace hx739_6 := pB_ HB.out hx739_6; replace p739 := eq_true p739; replace q739 := eq_true q739))
    repeat (go_quiet (first | (go_at_call 49; (with_reducible refine (spec_NodesOk.calls k _ _ l0 true _ ?side1 ?side2 A8.out).mono ?_); (case side1 => exact Kd.C_below HR0.out (by repeat (with_reducible first | exact HB.out | apply bA_ | apply bN_ | apply b1_ | refine bS_ ?_ GE735.out | refine bS_ ?_ GE736.out))); (case side2 => exact HC0.out); rintro e w14 ⟨rfl, hb⟩; have n0_ := Ad_.mk (blk_below (g := gb735) (o := .cells #[.int .i64 0, .int .i64 0] 59 (0, 0)) (by (with_reducible repeat (first | refine kN_ ?_ _ | refine k1_ ?_ | refine kA_ ?_ _)); refine blk_far ?_ NB735_736.out _; (with_reducible repeat (first | refine kN_ ?_ _ | refine k1_ ?_ | refine kA_ ?_ _)); refine blk_far ?_ NB735_736.out _; (with_reducible repeat (first | refine kN_ ?_ _ | refine k1_ ?_ | refine kA_ ?_ _)); exact BK735.out) hb); have n1_ := Ad_.mk (blk_below (g := gb736) (o := .cells #[.int .i64 (-1), .int .i64 (-1)] 59 (0, 0)) (by (with_reducible repeat (first | refine kN_ ?_ _ | refine k1_ ?_ | refine kA_ ?_ _)); refine blk_put (cs := #[.int .i64 (-1), .int .i64 0]) ?_ 1 _ rfl; (with_reducible repeat (first | refine kN_ ?_ _ | refine k1_ ?_ | refine kA_ ?_ _)); refine blk_put (cs := #[.int .i64 0, .int .i64 0]) ?_ 0 _ rfl; (with_reducible repeat (first | refine kN_ ?_ _ | refine k1_ ?_ | refine kA_ ?_ _)); exact BK736.out) hb); have n2_ := Ad_.mk (bP_ (by repeat (with_reducible first | exact HB.out | apply bA_ | apply bN_ | apply b1_ | refine bS_ ?_ GE735.out | refine bS_ ?_ GE736.out)) hb); clear BK735; clear BK736; clear HB; have BK735 := n0_; have BK736 := n1_; have HB := n2_; clear n0_ n1_ n2_; (try clear hb); (try clear hb2); (try clear hk); (try clear hi)) | (go_at_call 68; (with_reducible refine (spec_l1In.calls a1 0 (wrap64 ((l0.length : Int) - 1)) true _ A10.out).mono ?_); rintro e w' ⟨rfl, ⟨nd, rfl⟩⟩; (try first | exact ⟨rfl, _, World.drewN_drewN _ _ _⟩ | exact ⟨rfl, _, Eq.trans (World.drewN_drewN _ _ _) (congrArg (World.drewN _) (Nat.add_assoc _ _ _))⟩); have p739 : 0 ≤ (a1 : Int) := od_; have q739 : a1 < (l0.length : Int) := od_; obtain ⟨ad739, e739, hx739_0, hx739_1, hx739_2, hx739_3, hx739_4, hx739_5, hx739_6⟩ := at_T55 HR0.out a1 p739 q739; cases e739; replace hx739_0 := pB_ HB.out hx739_0; replace hx739_1 := pB_ HB.out hx739_1; replace hx739_2 := pB_ HB.out hx739_2; replace hx739_3 := pB_ HB.out hx739_3; replace hx739_4 := pB_ HB.out hx739_4; replace hx739_5 := pB_ HB.out hx739_5; replace hx739_6 := pB_ HB.out hx739_6; replace p739 := eq_true p739; replace q739 := eq_true q739)); try go_wp2_with (first | (go_at_call 49; (with_reducible refine (spec_NodesOk.calls k _ _ l0 true _ ?side1 ?side2 A8.out).mono ?_); (case side1 => exact Kd.C_below HR0.out (by repeat (with_reducible first | exact HB.out | apply bA_ | apply bN_ | apply b1_ | refine bS_ ?_ GE735.out | refine bS_ ?_ GE736.out))); (case side2 => exact HC0.out); rintro e w14 ⟨rfl, hb⟩; have n0_ := Ad_.mk (blk_below (g := gb735) (o := .cells #[.int .i64 0, .int .i64 0] 59 (0, 0)) (by (with_reducible repeat (first | refine kN_ ?_ _ | refine k1_ ?_ | refine kA_ ?_ _)); refine blk_far ?_ NB735_736.out _; (with_reducible repeat (first | refine kN_ ?_ _ | refine k1_ ?_ | refine kA_ ?_ _)); refine blk_far ?_ NB735_736.out _; (with_reducible repeat (first | refine kN_ ?_ _ | refine k1_ ?_ | refine kA_ ?_ _)); exact BK735.out) hb); have n1_ := Ad_.mk (blk_below (g := gb736) (o := .cells #[.int .i64 (-1), .int .i64 (-1)] 59 (0, 0)) (by (with_reducible repeat (first | refine kN_ ?_ _ | refine k1_ ?_ | refine kA_ ?_ _)); refine blk_put (cs := #[.int .i64 (-1), .int .i64 0]) ?_ 1 _ rfl; (with_reducible repeat (first | refine kN_ ?_ _ | refine k1_ ?_ | refine kA_ ?_ _)); refine blk_put (cs := #[.int .i64 0, .int .i64 0]) ?_ 0 _ rfl; (with_reducible repeat (first | refine kN_ ?_ _ | refine k1_ ?_ | refine kA_ ?_ _)); exact BK736.out) hb); have n2_ := Ad_.mk (bP_ (by repeat (with_reducible first | exact HB.out | apply bA_ | apply bN_ | apply b1_ | refine bS_ ?_ GE735.out | refine bS_ ?_ GE736.out)) hb); clear BK735; clear BK736; clear HB; have BK735 := n0_; have BK736 := n1_; have HB := n2_; clear n0_ n1_ n2_; (try clear hb); (try clear hb2); (try clear hk); (try clear hi)) | (go_at_call 68; (with_reducible refine (spec_l1In.calls a1 0 (wrap64 ((l0.length : Int) - 1)) true _ A10.out).mono ?_); rintro e w' ⟨rfl, ⟨nd, rfl⟩⟩; (try first | exact ⟨rfl, _, World.drewN_drewN _ _ _⟩ | exact ⟨rfl, _, Eq.trans (World.drewN_drewN _ _ _) (congrArg (World.drewN _) (Nat.add_assoc _ _ _))⟩); have p739 : 0 ≤ (a1 : Int) := od_; have q739 : a1 < (l0.length : Int) := od_; obtain ⟨ad739, e739, hx739_0, hx739_1, hx739_2, hx739_3, hx739_4, hx739_5, hx739_6⟩ := at_T55 HR0.out a1 p739 q739; cases e739; replace hx739_0 := pB_ HB.out hx739_0; replace hx739_1 := pB_ HB.out hx739_1; replace hx739_2 := pB_ HB.out hx739_2; replace hx739_3 := pB_ HB.out hx739_3; replace hx739_4 := pB_ HB.out hx739_4; replace hx739_5 := pB_ HB.out hx739_5; replace hx739_6 := pB_ HB.out hx739_6; replace p739 := eq_true p739; replace q739 := eq_true q739)))
    go_meet
    case rel => exact ⟨_, ((((rd_T55 l0 a1).f0) != 1)), fs_, H', ⟨by first | omega | exact Nat.le_refl _⟩, ⟨by (with_reducible repeat (first | refine kN_ ?_ _ | refine k1_ ?_ | refine kA_ ?_ _)); exact BK735.out⟩, ⟨by (with_reducible repeat (first | refine kN_ ?_ _ | refine k1_ ?_ | refine kA_ ?_ _)); exact BK736.out⟩, ⟨by repeat (with_reducible first | exact HB.out | apply bA_ | apply bN_ | apply b1_ | refine bS_ ?_ GE735.out | refine bS_ ?_ GE736.out)⟩⟩
  case rest =>
    clear HC3
    try clear p2
    try clear p6
    try clear p7
    try clear q7
    try clear hx7
    try clear c12b0
    try clear c13b0
    try clear hcz7_0 hcz7_1
    try clear hfz7_0 hfz7_1
    try clear hx739_0
    try clear hx739_1
    try clear hx739_2
    try clear hx739_3
    try clear hx739_4
    try clear hx739_5
    try clear hx739_6
    try clear p739
    try clear q739
    obtain ⟨kq, x30_2, rfl, HA, HJ2, BK735, BK736, HB⟩ := hcut
    cases kq with
    | zero => exact absurd HA.out (by simp [spec_BinderOf.j0])
    | succ kj2 =>
      have H := HA.out
      clear HA
      simp only [spec_BinderOf.j0] at H
      by_cases c17 : x30_2 = true
      ·
       subst c17
       have H1 := H
       rw [if_pos rfl] at H1
       clear H
       have H := H1
       clear H1
       simp only [Option.some.injEq, Prod.mk.injEq] at H
       obtain ⟨rfl, rfl⟩ := H
       have hnb18 := NB736_735.out
       have hnc18 := NB735_736.out
       obtain ⟨hcz19_0, hcz19_1⟩ := cells2_ BK736.out
       obtain ⟨hfz19_0, hfz19_1⟩ := froz2_ BK736.out
       obtain ⟨hcz20_0, hcz20_1⟩ := cells2_ BK735.out
       obtain ⟨hfz20_0, hfz20_1⟩ := froz2_ BK735.out
       go_wp2
       repeat (go_quiet (fail); try go_wp2)
       refine bodyPost_ret (results_cell_row rfl _ _ gb735 59 #[.int .i64 (-1), .int .i64 (-1)] (0, 0) _ rfl (by (with_reducible repeat (first | refine kN_ ?_ _ | refine k1_ ?_ | refine kA_ ?_ _)); refine blk_put (cs := #[.int .i64 (-1), .int .i64 0]) ?_ 1 _ rfl; (with_reducible repeat (first | refine kN_ ?_ _ | refine k1_ ?_ | refine kA_ ?_ _)); refine blk_put (cs := #[.int .i64 0, .int .i64 0]) ?_ 0 _ rfl; (with_reducible repeat (first | refine kN_ ?_ _ | refine k1_ ?_ | refine kA_ ?_ _)); exact BK735.out) Tryd.underlying59 rfl (by kernel_rfl)) rfl ?_
       exact ⟨by first | rfl | (simp [errW_none, errW_some] <;> rfl) | (simp [*, errW_none, errW_some] <;> rfl), by repeat (with_reducible first | exact HB.out | apply bA_ | apply bN_ | apply b1_ | refine bS_ ?_ GE735.out | refine bS_ ?_ GE736.out)⟩
      replace c17 := Bool.eq_false_iff.mpr c17
      subst c17
      have H1 : ((spec_ParentOf.f kj2 l0 a1).bind fun t740 => (spec_BinderOf.l0 kj2 l0 a1 a1 t740 (-1) (-1))) = some (r1, r2) := by rw [if_neg (show ¬ (false = true) by decide)] at H; exact H
      clear H
      have H := H1
      clear H1
      replace H := Option.bind_eq_some_iff.mp H
      obtain ⟨t740, A210, H⟩ := H
      try dsimp only at H
      have A21 := Ad_.mk A210
      clear A210
      have H' := Ad_.mk H
      clear H
      go_wp2_with (first | (go_at_call 69; (with_reducible refine (spec_ParentOf.calls kj2 _ _ l0 a1 t740 _ ?side1 ?side2 A21.out).mono ?_); (case side1 => repeat (first | exact (Kd.C_below HR0.out HB.out) | (with_reducible refine Kd.C_alloc ?_ _) | (with_reducible refine Kd.C_drewN ?_ _) | (with_reducible refine Kd.C_drew ?_))); (case side2 => exact HC0.out); rintro e w22 ⟨rfl, hb⟩; have n0_ := Ad_.mk (blk_below (g := gb735) (o := .cells #[.int .i64 0, .int .i64 0] 59 (0, 0)) (by (with_reducible repeat (first | refine kN_ ?_ _ | refine k1_ ?_ | refine kA_ ?_ _)); exact BK735.out) hb); have n1_ := Ad_.mk (blk_below (g := gb736) (o := .cells #[.int .i64 (-1), .int .i64 (-1)] 59 (0, 0)) (by (with_reducible repeat (first | refine kN_ ?_ _ | refine k1_ ?_ | refine kA_ ?_ _)); exact BK736.out) hb); have n2_ := Ad_.mk (bP_ (by repeat (with_reducible first | exact HB.out | apply bA_ | apply bN_ | apply b1_ | refine bS_ ?_ GE735.out | refine bS_ ?_ GE736.out)) hb); clear BK735; clear BK736; clear HB; have BK735 := n0_; have BK736 := n1_; have HB := n2_; clear n0_ n1_ n2_; (try clear hb); (try clear hb2); (try clear hk); (try clear hi)))
      repeat (go_quiet (first | (go_at_call 69; (with_reducible refine (spec_ParentOf.calls kj2 _ _ l0 a1 t740 _ ?side1 ?side2 A21.out).mono ?_); (case side1 => repeat (first | exact (Kd.C_below HR0.out HB.out) | (with_reducible refine Kd.C_alloc ?_ _) | (with_reducible refine Kd.C_drewN ?_ _) | (with_reducible refine Kd.C_drew ?_))); (case side2 => exact HC0.out); rintro e w22 ⟨rfl, hb⟩; have n0_ := Ad_.mk (blk_below (g := gb735) (o := .cells #[.int .i64 0, .int .i64 0] 59 (0, 0)) (by (with_reducible repeat (first | refine kN_ ?_ _ | refine k1_ ?_ | refine kA_ ?_ _)); exact BK735.out) hb); have n1_ := Ad_.mk (blk_below (g := gb736) (o := .cells #[.int .i64 (-1), .int .i64 (-1)] 59 (0, 0)) (by (with_reducible repeat (first | refine kN_ ?_ _ | refine k1_ ?_ | refine kA_ ?_ _)); exact BK736.out) hb); have n2_ := Ad_.mk (bP_ (by repeat (with_reducible first | exact HB.out | apply bA_ | apply bN_ | apply b1_ | refine bS_ ?_ GE735.out | refine bS_ ?_ GE736.out)) hb); clear BK735; clear BK736; clear HB; have BK735 := n0_; have BK736 := n1_; have HB := n2_; clear n0_ n1_ n2_; (try clear hb); (try clear hb2); (try clear hk); (try clear hi))); try go_wp2_with (first | (go_at_call 69; (with_reducible refine (spec_ParentOf.calls kj2 _ _ l0 a1 t740 _ ?side1 ?side2 A21.out).mono ?_); (case side1 => repeat (first | exact (Kd.C_below HR0.out HB.out) | (with_reducible refine Kd.C_alloc ?_ _) | (with_reducible refine Kd.C_drewN ?_ _) | (with_reducible refine Kd.C_drew ?_))); (case side2 => exact HC0.out); rintro e w22 ⟨rfl, hb⟩; have n0_ := Ad_.mk (blk_below (g := gb735) (o := .cells #[.int .i64 0, .int .i64 0] 59 (0, 0)) (by (with_reducible repeat (first | refine kN_ ?_ _ | refine k1_ ?_ | refine kA_ ?_ _)); exact BK735.out) hb); have n1_ := Ad_.mk (blk_below (g := gb736) (o := .cells #[.int .i64 (-1), .int .i64 (-1)] 59 (0, 0)) (by (with_reducible repeat (first | refine kN_ ?_ _ | refine k1_ ?_ | refine kA_ ?_ _)); exact BK736.out) hb); have n2_ := Ad_.mk (bP_ (by repeat (with_reducible first | exact HB.out | apply bA_ | apply bN_ | apply b1_ | refine bS_ ?_ GE735.out | refine bS_ ?_ GE736.out)) hb); clear BK735; clear BK736; clear HB; have BK735 := n0_; have BK736 := n1_; have HB := n2_; clear n0_ n1_ n2_; (try clear hb); (try clear hb2); (try clear hk); (try clear hi))))
      go_loopg [6, 7] kj2 (fun kq v6 v7 w' => ∃ (x6_2 : Int) (x7_2 : Int) (x736000_2 : Int) (x736001_2 : Int), v6 = .int .i64 x6_2 ∧ v7 = .int .i64 x7_2 ∧ Ad_ (spec_BinderOf.l0 kq l0 a1 x6_2 x7_2 (-1) (-1) = some (r1, r2)) ∧ Ad_ (kq ≤ kj2) ∧ Ad_ (w'.heap[gb735]? = some (.cells #[.int .i64 x736000_2, .int .i64 x736001_2] 59 (0, 0))) ∧ Ad_ (w'.heap[gb736]? = some (.cells #[.int .i64 (-1), .int .i64 (-1)] 59 (0, 0))) ∧ Ad_ (Below w.heap.size w w'))
      case atStart => exact ⟨(a1), (t740), (0), (0), fs_, fs_, H', ⟨Nat.le_refl _⟩, ⟨by (with_reducible repeat (first | refine kN_ ?_ _ | refine k1_ ?_ | refine kA_ ?_ _)); exact BK735.out⟩, ⟨by (with_reducible repeat (first | refine kN_ ?_ _ | refine k1_ ?_ | refine kA_ ?_ _)); exact BK736.out⟩, ⟨by repeat (with_reducible first | exact HB.out | apply bA_ | apply bN_ | apply b1_ | refine bS_ ?_ GE735.out | refine bS_ ?_ GE736.out)⟩⟩
      case round =>
        clear H'
        try clear p2
        try clear p6
        try clear p7
        try clear q7
        try clear hx7
        try clear c12b0
        try clear c13b0
        try clear hcz19_0 hcz19_1
        try clear hcz20_0 hcz20_1
        try clear hcz7_0 hcz7_1
        try clear hfz19_0 hfz19_1
        try clear hfz20_0 hfz20_1
        try clear hfz7_0 hfz7_1
        try clear hx739_0
        try clear hx739_1
        try clear hx739_2
        try clear hx739_3
        try clear hx739_4
        try clear hx739_5
        try clear hx739_6
        try clear p2
        try clear p6
        try clear p7
        try clear p739
        try clear q7
        try clear q739
        obtain ⟨x6_2, x7_2, x736000_2, x736001_2, rfl, rfl, HA, HK2, BK735, BK736, HB⟩ := hrel
        cases gk with
        | zero => exact absurd HA.out (by simp [spec_BinderOf.l0])
        | succ k2 =>
          have H := HA.out
          clear HA
          simp only [spec_BinderOf.l0] at H
          by_cases c23 : x7_2 ≥ 0
          rotate_left
          ·
           rw [if_neg c23] at H
           have c23b0 := decide_eq_false c23
           clear c23
           simp only [Option.some.injEq, Prod.mk.injEq] at H
           obtain ⟨rfl, rfl⟩ := H
           have hnb42 := NB736_735.out
           have hnc42 := NB735_736.out
           obtain ⟨hcz43_0, hcz43_1⟩ := cells2_ BK736.out
           obtain ⟨hfz43_0, hfz43_1⟩ := froz2_ BK736.out
           obtain ⟨hcz44_0, hcz44_1⟩ := cells2_ BK735.out
           obtain ⟨hfz44_0, hfz44_1⟩ := froz2_ BK735.out
           go_wp2
           repeat (go_quiet (fail); try go_wp2)
           refine bodyPost_ret (results_cell_row rfl _ _ gb735 59 #[.int .i64 (-1), .int .i64 (-1)] (0, 0) _ rfl (by (with_reducible repeat (first | refine kN_ ?_ _ | refine k1_ ?_ | refine kA_ ?_ _)); refine blk_put (cs := #[.int .i64 (-1), .int .i64 x736001_2]) ?_ 1 _ rfl; (with_reducible repeat (first | refine kN_ ?_ _ | refine k1_ ?_ | refine kA_ ?_ _)); refine blk_put (cs := #[.int .i64 x736000_2, .int .i64 x736001_2]) ?_ 0 _ rfl; (with_reducible repeat (first | refine kN_ ?_ _ | refine k1_ ?_ | refine kA_ ?_ _)); exact BK735.out) Tryd.underlying59 rfl (by kernel_rfl)) rfl ?_
           exact ⟨by first | rfl | (simp [errW_none, errW_some] <;> rfl) | (simp [*, errW_none, errW_some] <;> rfl), by repeat (with_reducible first | exact HB.out | apply bA_ | apply bN_ | apply b1_ | refine bS_ ?_ GE735.out | refine bS_ ?_ GE736.out)⟩
          rw [if_pos c23] at H
          have c23b0 := decide_eq_true c23
          clear c23
          by_cases c24 : 0 ≤ x7_2
          rotate_left
          ·
           rw [if_neg c24] at H
           exact absurd H (by simp)
          rw [if_pos c24] at H
          have c24b0 := decide_eq_true c24
          clear c24
          by_cases c25 : x7_2 < (l0.length : Int)
          rotate_left
          ·
           rw [if_neg c25] at H
           exact absurd H (by simp)
          rw [if_pos c25] at H
          have c25b0 := decide_eq_true c25
          clear c25
          replace H := Option.bind_eq_some_iff.mp H
          obtain ⟨⟨t742, t745⟩, A260, H⟩ := H
          try dsimp only at H
          have A26 := Ad_.mk A260
          clear A260
          have H' := Ad_.mk H
          clear H
          have p741 : 0 ≤ (x7_2 : Int) := od_
          have q741 : x7_2 < (l0.length : Int) := od_
          obtain ⟨ad741, e741, hx741_0, hx741_1, hx741_2, hx741_3, hx741_4, hx741_5, hx741_6⟩ := at_T55 HR0.out x7_2 p741 q741
          cases e741
          replace hx741_0 := pB_ HB.out hx741_0
          replace hx741_1 := pB_ HB.out hx741_1
          replace hx741_2 := pB_ HB.out hx741_2
          replace hx741_3 := pB_ HB.out hx741_3
          replace hx741_4 := pB_ HB.out hx741_4
          replace hx741_5 := pB_ HB.out hx741_5
          replace hx741_6 := pB_ HB.out hx741_6
          replace p741 := eq_true p741
          replace q741 := eq_true q741
          go_wp2_with (first | (go_at_call 108; (with_reducible refine (spec_l6Bound.calls k2 ((rd_T55 l0 x7_2).f0) ((rd_T55 l0 x7_2).f1) ((rd_T55 l0 x7_2).f2) ((rd_T55 l0 x7_2).f3) ((rd_T55 l0 x7_2).f4) ((rd_T55 l0 x7_2).f5) ((rd_T55 l0 x7_2).f6) x6_2 t742 t745 _ A26.out).mono ?_); rintro e w27 ⟨v743, v746, rfl, ho0, ho1, hb⟩; have n0_ := Ad_.mk (Kd.R_lower ho0 (bZ_ (by repeat (with_reducible first | exact HB.out | apply bA_ | apply bN_ | apply b1_ | refine bS_ ?_ GE735.out | refine bS_ ?_ GE736.out)))); have n1_ := Ad_.mk (Kd.R_lower ho1 (bZ_ (by repeat (with_reducible first | exact HB.out | apply bA_ | apply bN_ | apply b1_ | refine bS_ ?_ GE735.out | refine bS_ ?_ GE736.out)))); have n2_ := Ad_.mk (blk_below (g := gb735) (o := .cells #[.int .i64 x736000_2, .int .i64 x736001_2] 59 (0, 0)) (by (with_reducible repeat (first | refine kN_ ?_ _ | refine k1_ ?_ | refine kA_ ?_ _)); exact BK735.out) hb); have n3_ := Ad_.mk (blk_below (g := gb736) (o := .cells #[.int .i64 (-1), .int .i64 (-1)] 59 (0, 0)) (by (with_reducible repeat (first | refine kN_ ?_ _ | refine k1_ ?_ | refine kA_ ?_ _)); exact BK736.out) hb); have n4_ := Ad_.mk (bP_ (by repeat (with_reducible first | exact HB.out | apply bA_ | apply bN_ | apply b1_ | refine bS_ ?_ GE735.out | refine bS_ ?_ GE736.out)) hb); clear BK735; clear BK736; clear HB; have HO744 := n0_; have HO747 := n1_; have BK735 := n2_; have BK736 := n3_; have HB := n4_; clear n0_ n1_ n2_ n3_ n4_; (try clear hb); (try clear hb2); (try clear hk); (try clear hi); (try clear ho0); (try clear ho1)))
          repeat (go_quiet (first | (go_at_call 108; (with_reducible refine (spec_l6Bound.calls k2 ((rd_T55 l0 x7_2).f0) ((rd_T55 l0 x7_2).f1) ((rd_T55 l0 x7_2).f2) ((rd_T55 l0 x7_2).f3) ((rd_T55 l0 x7_2).f4) ((rd_T55 l0 x7_2).f5) ((rd_T55 l0 x7_2).f6) x6_2 t742 t745 _ A26.out).mono ?_); rintro e w27 ⟨v743, v746, rfl, ho0, ho1, hb⟩; have n0_ := Ad_.mk (Kd.R_lower ho0 (bZ_ (by repeat (with_reducible first | exact HB.out | apply bA_ | apply bN_ | apply b1_ | refine bS_ ?_ GE735.out | refine bS_ ?_ GE736.out)))); have n1_ := Ad_.mk (Kd.R_lower ho1 (bZ_ (by repeat (with_reducible first | exact HB.out | apply bA_ | apply bN_ | apply b1_ | refine bS_ ?_ GE735.out | refine bS_ ?_ GE736.out)))); have n2_ := Ad_.mk (blk_below (g := gb735) (o := .cells #[.int .i64 x736000_2, .int .i64 x736001_2] 59 (0, 0)) (by (with_reducible repeat (first | refine kN_ ?_ _ | refine k1_ ?_ | refine kA_ ?_ _)); exact BK735.out) hb); have n3_ := Ad_.mk (blk_below (g := gb736) (o := .cells #[.int .i64 (-1), .int .i64 (-1)] 59 (0, 0)) (by (with_reducible repeat (first | refine kN_ ?_ _ | refine k1_ ?_ | refine kA_ ?_ _)); exact BK736.out) hb); have n4_ := Ad_.mk (bP_ (by repeat (with_reducible first | exact HB.out | apply bA_ | apply bN_ | apply b1_ | refine bS_ ?_ GE735.out | refine bS_ ?_ GE736.out)) hb); clear BK735; clear BK736; clear HB; have HO744 := n0_; have HO747 := n1_; have BK735 := n2_; have BK736 := n3_; have HB := n4_; clear n0_ n1_ n2_ n3_ n4_; (try clear hb); (try clear hb2); (try clear hk); (try clear hi); (try clear ho0); (try clear ho1))); try go_wp2_with (first | (go_at_call 108; (with_reducible refine (spec_l6Bound.calls k2 ((rd_T55 l0 x7_2).f0) ((rd_T55 l0 x7_2).f1) ((rd_T55 l0 x7_2).f2) ((rd_T55 l0 x7_2).f3) ((rd_T55 l0 x7_2).f4) ((rd_T55 l0 x7_2).f5) ((rd_T55 l0 x7_2).f6) x6_2 t742 t745 _ A26.out).mono ?_); rintro e w27 ⟨v743, v746, rfl, ho0, ho1, hb⟩; have n0_ := Ad_.mk (Kd.R_lower ho0 (bZ_ (by repeat (with_reducible first | exact HB.out | apply bA_ | apply bN_ | apply b1_ | refine bS_ ?_ GE735.out | refine bS_ ?_ GE736.out)))); have n1_ := Ad_.mk (Kd.R_lower ho1 (bZ_ (by repeat (with_reducible first | exact HB.out | apply bA_ | apply bN_ | apply b1_ | refine bS_ ?_ GE735.out | refine bS_ ?_ GE736.out)))); have n2_ := Ad_.mk (blk_below (g := gb735) (o := .cells #[.int .i64 x736000_2, .int .i64 x736001_2] 59 (0, 0)) (by (with_reducible repeat (first | refine kN_ ?_ _ | refine k1_ ?_ | refine kA_ ?_ _)); exact BK735.out) hb); have n3_ := Ad_.mk (blk_below (g := gb736) (o := .cells #[.int .i64 (-1), .int .i64 (-1)] 59 (0, 0)) (by (with_reducible repeat (first | refine kN_ ?_ _ | refine k1_ ?_ | refine kA_ ?_ _)); exact BK736.out) hb); have n4_ := Ad_.mk (bP_ (by repeat (with_reducible first | exact HB.out | apply bA_ | apply bN_ | apply b1_ | refine bS_ ?_ GE735.out | refine bS_ ?_ GE736.out)) hb); clear BK735; clear BK736; clear HB; have HO744 := n0_; have HO747 := n1_; have BK735 := n2_; have BK736 := n3_; have HB := n4_; clear n0_ n1_ n2_ n3_ n4_; (try clear hb); (try clear hb2); (try clear hk); (try clear hi); (try clear ho0); (try clear ho1))))
          go_loopg [10] k2 (fun kq v10 w' => ∃ (x10_3 : Int) (x736000_3 : Int) (x736001_3 : Int), v10 = .int .i64 x10_3 ∧ Ad_ (spec_BinderOf.l1 kq l0 a1 x7_2 t742 t745 x10_3 (-1) (-1) = some (r1, r2)) ∧ Ad_ (kq ≤ k2) ∧ Ad_ (Kd.R Kd.string 9 w' w.heap.size (fun _ => True) v743 t742) ∧ Ad_ (Kd.R (Kd.int .i64) 3 w' w.heap.size (fun _ => True) v746 t745) ∧ Ad_ (w'.heap[gb735]? = some (.cells #[.int .i64 x736000_3, .int .i64 x736001_3] 59 (0, 0))) ∧ Ad_ (w'.heap[gb736]? = some (.cells #[.int .i64 (-1), .int .i64 (-1)] 59 (0, 0))) ∧ Ad_ (Below w.heap.size w w'))
          case atStart => exact ⟨(0), (x736000_2), (x736001_2), fs_, H', ⟨Nat.le_refl _⟩, ⟨by (with_reducible repeat (first | apply Kd.R_alloc | apply Kd.R_drewN | apply Kd.R_drew)); exact HO744.out⟩, ⟨by (with_reducible repeat (first | apply Kd.R_alloc | apply Kd.R_drewN | apply Kd.R_drew)); exact HO747.out⟩, ⟨by (with_reducible repeat (first | refine kN_ ?_ _ | refine k1_ ?_ | refine kA_ ?_ _)); exact BK735.out⟩, ⟨by (with_reducible repeat (first | refine kN_ ?_ _ | refine k1_ ?_ | refine kA_ ?_ _)); exact BK736.out⟩, ⟨by repeat (with_reducible first | exact HB.out | apply bA_ | apply bN_ | apply b1_ | refine bS_ ?_ GE735.out | refine bS_ ?_ GE736.out)⟩⟩
          case round =>
            clear H'
            try clear p2
            try clear p6
            try clear p7
            try clear q7
            try clear hx7
            try clear c12b0
            try clear c13b0
            try clear c23b0
            try clear c24b0
            try clear c25b0
            try clear hcz19_0 hcz19_1
            try clear hcz20_0 hcz20_1
            try clear hcz7_0 hcz7_1
            try clear hfz19_0 hfz19_1
            try clear hfz20_0 hfz20_1
            try clear hfz7_0 hfz7_1
            try clear hx739_0
            try clear hx739_1
            try clear hx739_2
            try clear hx739_3
            try clear hx739_4
            try clear hx739_5
            try clear hx739_6
            try clear hx741_0
            try clear hx741_1
            try clear hx741_2
            try clear hx741_3
            try clear hx741_4
            try clear hx741_5
            try clear hx741_6
            try clear p2
            try clear p6
            try clear p7
            try clear p739
            try clear p741
            try clear q7
            try clear q739
            try clear q741
            obtain ⟨x10_3, x736000_3, x736001_3, rfl, HA, HK3, HO_8, HO_9, BK735, BK736, HB⟩ := hrel
            cases gk with
            | zero => exact absurd HA.out (by simp [spec_BinderOf.l1])
            | succ k3 =>
              have H := HA.out
              clear HA
              simp only [spec_BinderOf.l1] at H
              by_cases c28 : x10_3 < (t742.length : Int)
              rotate_left
              ·
               rw [if_neg c28] at H
               have c28b0 := decide_eq_false c28
               clear c28
               replace H := Option.bind_eq_some_iff.mp H
               obtain ⟨t751, A390, H⟩ := H
               try dsimp only at H
               have A39 := Ad_.mk A390
               clear A390
               have H' := Ad_.mk H
               clear H
               obtain ⟨Ao40, co40, eo40⟩ := Kd.R_slice HO_8.out
               subst eo40
               go_wp2_with (first | (go_at_call 69; (with_reducible refine (spec_ParentOf.calls k3 _ _ l0 x7_2 t751 _ ?side1 ?side2 A39.out).mono ?_); (case side1 => repeat (first | exact (Kd.C_below HR0.out HB.out) | (with_reducible refine Kd.C_alloc ?_ _) | (with_reducible refine Kd.C_drewN ?_ _) | (with_reducible refine Kd.C_drew ?_))); (case side2 => exact HC0.out); rintro e w41 ⟨rfl, hb⟩; have n0_ := Ad_.mk (Kd.R_below (by (with_reducible repeat (first | apply Kd.R_alloc | apply Kd.R_drewN | apply Kd.R_drew)); exact HO_8.out) hb); have n1_ := Ad_.mk (Kd.R_below (by (with_reducible repeat (first | apply Kd.R_alloc | apply Kd.R_drewN | apply Kd.R_drew)); exact HO_9.out) hb); have n2_ := Ad_.mk (blk_below (g := gb735) (o := .cells #[.int .i64 x736000_3, .int .i64 x736001_3] 59 (0, 0)) (by (with_reducible repeat (first | refine kN_ ?_ _ | refine k1_ ?_ | refine kA_ ?_ _)); exact BK735.out) hb); have n3_ := Ad_.mk (blk_below (g := gb736) (o := .cells #[.int .i64 (-1), .int .i64 (-1)] 59 (0, 0)) (by (with_reducible repeat (first | refine kN_ ?_ _ | refine k1_ ?_ | refine kA_ ?_ _)); exact BK736.out) hb); have n4_ := Ad_.mk (bP_ (by repeat (with_reducible first | exact HB.out | apply bA_ | apply bN_ | apply b1_ | refine bS_ ?_ GE735.out | refine bS_ ?_ GE736.out)) hb); clear HO_8; clear HO_9; clear BK735; clear BK736; clear HB; have HO_8 := n0_; have HO_9 := n1_; have BK735 := n2_; have BK736 := n3_; have HB := n4_; clear n0_ n1_ n2_ n3_ n4_; (try clear hb); (try clear hb2); (try clear hk); (try clear hi)))
               repeat (go_quiet (first | (go_at_call 69; (with_reducible refine (spec_ParentOf.calls k3 _ _ l0 x7_2 t751 _ ?side1 ?side2 A39.out).mono ?_); (case side1 => repeat (first | exact (Kd.C_below HR0.out HB.out) | (with_reducible refine Kd.C_alloc ?_ _) | (with_reducible refine Kd.C_drewN ?_ _) | (with_reducible refine Kd.C_drew ?_))); (case side2 => exact HC0.out); rintro e w41 ⟨rfl, hb⟩; have n0_ := Ad_.mk (Kd.R_below (by (with_reducible repeat (first | apply Kd.R_alloc | apply Kd.R_drewN | apply Kd.R_drew)); exact HO_8.out) hb); have n1_ := Ad_.mk (Kd.R_below (by (with_reducible repeat (first | apply Kd.R_alloc | apply Kd.R_drewN | apply Kd.R_drew)); exact HO_9.out) hb); have n2_ := Ad_.mk (blk_below (g := gb735) (o := .cells #[.int .i64 x736000_3, .int .i64 x736001_3] 59 (0, 0)) (by (with_reducible repeat (first | refine kN_ ?_ _ | refine k1_ ?_ | refine kA_ ?_ _)); exact BK735.out) hb); have n3_ := Ad_.mk (blk_below (g := gb736) (o := .cells #[.int .i64 (-1), .int .i64 (-1)] 59 (0, 0)) (by (with_reducible repeat (first | refine kN_ ?_ _ | refine k1_ ?_ | refine kA_ ?_ _)); exact BK736.out) hb); have n4_ := Ad_.mk (bP_ (by repeat (with_reducible first | exact HB.out | apply bA_ | apply bN_ | apply b1_ | refine bS_ ?_ GE735.out | refine bS_ ?_ GE736.out)) hb); clear HO_8; clear HO_9; clear BK735; clear BK736; clear HB; have HO_8 := n0_; have HO_9 := n1_; have BK735 := n2_; have BK736 := n3_; have HB := n4_; clear n0_ n1_ n2_ n3_ n4_; (try clear hb); (try clear hb2); (try clear hk); (try clear hi))); try go_wp2_with (first | (go_at_call 69; (with_reducible refine (spec_ParentOf.calls k3 _ _ l0 x7_2 t751 _ ?side1 ?side2 A39.out).mono ?_); (case side1 => repeat (first | exact (Kd.C_below HR0.out HB.out) | (with_reducible refine Kd.C_alloc ?_ _) | (with_reducible refine Kd.C_drewN ?_ _) | (with_reducible refine Kd.C_drew ?_))); (case side2 => exact HC0.out); rintro e w41 ⟨rfl, hb⟩; have n0_ := Ad_.mk (Kd.R_below (by (with_reducible repeat (first | apply Kd.R_alloc | apply Kd.R_drewN | apply Kd.R_drew)); exact HO_8.out) hb); have n1_ := Ad_.mk (Kd.R_below (by (with_reducible repeat (first | apply Kd.R_alloc | apply Kd.R_drewN | apply Kd.R_drew)); exact HO_9.out) hb); have n2_ := Ad_.mk (blk_below (g := gb735) (o := .cells #[.int .i64 x736000_3, .int .i64 x736001_3] 59 (0, 0)) (by (with_reducible repeat (first | refine kN_ ?_ _ | refine k1_ ?_ | refine kA_ ?_ _)); exact BK735.out) hb); have n3_ := Ad_.mk (blk_below (g := gb736) (o := .cells #[.int .i64 (-1), .int .i64 (-1)] 59 (0, 0)) (by (with_reducible repeat (first | refine kN_ ?_ _ | refine k1_ ?_ | refine kA_ ?_ _)); exact BK736.out) hb); have n4_ := Ad_.mk (bP_ (by repeat (with_reducible first | exact HB.out | apply bA_ | apply bN_ | apply b1_ | refine bS_ ?_ GE735.out | refine bS_ ?_ GE736.out)) hb); clear HO_8; clear HO_9; clear BK735; clear BK736; clear HB; have HO_8 := n0_; have HO_9 := n1_; have BK735 := n2_; have BK736 := n3_; have HB := n4_; clear n0_ n1_ n2_ n3_ n4_; (try clear hb); (try clear hb2); (try clear hk); (try clear hi))))
               go_roundg k3
               case measure => have := HJ2.out; have := HK2.out; have := HK3.out; omega
               case rel => exact ⟨(x7_2), (t751), (x736000_3), (x736001_3), fs_, fs_, H', ⟨by have := HJ2.out; have := HK2.out; have := HK3.out; omega⟩, ⟨by (with_reducible repeat (first | refine kN_ ?_ _ | refine k1_ ?_ | refine kA_ ?_ _)); exact BK735.out⟩, ⟨by (with_reducible repeat (first | refine kN_ ?_ _ | refine k1_ ?_ | refine kA_ ?_ _)); exact BK736.out⟩, ⟨by repeat (with_reducible first | exact HB.out | apply bA_ | apply bN_ | apply b1_ | refine bS_ ?_ GE735.out | refine bS_ ?_ GE736.out)⟩⟩
              rw [if_pos c28] at H
              have c28b0 := decide_eq_true c28
              clear c28
              by_cases c29 : 0 ≤ x10_3
              rotate_left
              ·
               rw [if_neg c29] at H
               exact absurd H (by simp)
              rw [if_pos c29] at H
              have c29b0 := decide_eq_true c29
              clear c29
              by_cases c30 : 0 ≤ a1
              rotate_left
              ·
               rw [if_neg c30] at H
               exact absurd H (by simp)
              rw [if_pos c30] at H
              have c30b0 := decide_eq_true c30
              clear c30
              by_cases c31 : a1 < (l0.length : Int)
              rotate_left
              ·
               rw [if_neg c31] at H
               exact absurd H (by simp)
              rw [if_pos c31] at H
              have c31b0 := decide_eq_true c31
              clear c31
              by_cases c32 : (rdOf ByteArray.empty t742 x10_3).toList = ((rd_T55 l0 a1).f5).toList
              rotate_left
              ·
               rw [if_neg c32] at H
               have c32b0 : ((rdOf ByteArray.empty t742 x10_3).toList == ((rd_T55 l0 a1).f5).toList) = false := beq_eq_false_iff_ne.mpr c32
               have c32b1 : ((rdOf ByteArray.empty t742 x10_3).toList != ((rd_T55 l0 a1).f5).toList) = true := bne_iff_ne.mpr c32
               have H' := Ad_.mk H
               clear H
               obtain ⟨Ao38, co38, eo38⟩ := Kd.R_slice HO_8.out
               subst eo38
               have p748 : 0 ≤ (x10_3 : Int) := od_
               have q748 : x10_3 < (t742.length : Int) := od_
               obtain ⟨ad748, e748, hx748_0⟩ := Kd.at_string (Kd.R_reads' HO_8.out).2.2 x10_3 p748 q748
               cases e748
               replace p748 := eq_true p748
               replace q748 := eq_true q748
               have p749 : 0 ≤ (a1 : Int) := od_
               have q749 : a1 < (l0.length : Int) := od_
               obtain ⟨ad749, e749, hx749_0, hx749_1, hx749_2, hx749_3, hx749_4, hx749_5, hx749_6⟩ := at_T55 HR0.out a1 p749 q749
               obtain rfl : ad741 = ad749 := (by injection e749)
               replace hx749_0 := pB_ HB.out hx749_0
               replace hx749_1 := pB_ HB.out hx749_1
               replace hx749_2 := pB_ HB.out hx749_2
               replace hx749_3 := pB_ HB.out hx749_3
               replace hx749_4 := pB_ HB.out hx749_4
               replace hx749_5 := pB_ HB.out hx749_5
               replace hx749_6 := pB_ HB.out hx749_6
               replace p749 := eq_true p749
               replace q749 := eq_true q749
               go_wp2
               repeat (go_quiet (fail); try go_wp2)
               go_roundg k3
               case measure => have := HJ2.out; have := HK2.out; have := HK3.out; omega
               case rel => exact ⟨(wrap64 (x10_3 + 1)), (x736000_3), (x736001_3), fs_, H', ⟨by have := HJ2.out; have := HK2.out; have := HK3.out; omega⟩, ⟨by (with_reducible repeat (first | apply Kd.R_alloc | apply Kd.R_drewN | apply Kd.R_drew)); exact HO_8.out⟩, ⟨by (with_reducible repeat (first | apply Kd.R_alloc | apply Kd.R_drewN | apply Kd.R_drew)); exact HO_9.out⟩, ⟨by (with_reducible repeat (first | refine kN_ ?_ _ | refine k1_ ?_ | refine kA_ ?_ _)); exact BK735.out⟩, ⟨by (with_reducible repeat (first | refine kN_ ?_ _ | refine k1_ ?_ | refine kA_ ?_ _)); exact BK736.out⟩, ⟨by repeat (with_reducible first | exact HB.out | apply bA_ | apply bN_ | apply b1_ | refine bS_ ?_ GE735.out | refine bS_ ?_ GE736.out)⟩⟩
              rw [if_pos c32] at H
              have c32b0 : ((rdOf ByteArray.empty t742 x10_3).toList == ((rd_T55 l0 a1).f5).toList) = true := beq_iff_eq.mpr c32
              have c32b1 : ((rdOf ByteArray.empty t742 x10_3).toList != ((rd_T55 l0 a1).f5).toList) = false := bne_eq_false_iff_eq.mpr c32
              clear c32
              by_cases c33 : x10_3 < (t745.length : Int)
              rotate_left
              ·
               rw [if_neg c33] at H
               exact absurd H (by simp)
              rw [if_pos c33] at H
              have c33b0 := decide_eq_true c33
              clear c33
              simp only [Option.some.injEq, Prod.mk.injEq] at H
              obtain ⟨rfl, rfl⟩ := H
              obtain ⟨Ao34, co34, eo34⟩ := Kd.R_slice HO_8.out
              subst eo34
              have p748 : 0 ≤ (x10_3 : Int) := od_
              have q748 : x10_3 < (t742.length : Int) := od_
              obtain ⟨ad748, e748, hx748_0⟩ := Kd.at_string (Kd.R_reads' HO_8.out).2.2 x10_3 p748 q748
              cases e748
              replace p748 := eq_true p748
              replace q748 := eq_true q748
              have p749 : 0 ≤ (a1 : Int) := od_
              have q749 : a1 < (l0.length : Int) := od_
              obtain ⟨ad749, e749, hx749_0, hx749_1, hx749_2, hx749_3, hx749_4, hx749_5, hx749_6⟩ := at_T55 HR0.out a1 p749 q749
              obtain rfl : ad741 = ad749 := (by injection e749)
              replace hx749_0 := pB_ HB.out hx749_0
              replace hx749_1 := pB_ HB.out hx749_1
              replace hx749_2 := pB_ HB.out hx749_2
              replace hx749_3 := pB_ HB.out hx749_3
              replace hx749_4 := pB_ HB.out hx749_4
              replace hx749_5 := pB_ HB.out hx749_5
              replace hx749_6 := pB_ HB.out hx749_6
              replace p749 := eq_true p749
              replace q749 := eq_true q749
              obtain ⟨Ao35, co35, eo35⟩ := Kd.R_slice HO_9.out
              subst eo35
              have p750 : 0 ≤ (x10_3 : Int) := od_
              have q750 : x10_3 < (t745.length : Int) := od_
              obtain ⟨ad750, e750, hx750_0⟩ := Kd.at_int (Kd.R_reads' HO_9.out).2.2 x10_3 p750 q750
              cases e750
              replace p750 := eq_true p750
              replace q750 := eq_true q750
              have hnb36 := NB735_736.out
              have hnc36 := NB736_735.out
              obtain ⟨hcz37_0, hcz37_1⟩ := cells2_ BK735.out
              obtain ⟨hfz37_0, hfz37_1⟩ := froz2_ BK735.out
              go_wp2
              repeat (go_quiet (fail); try go_wp2)
              refine bodyPost_ret (results_cell_row rfl _ _ gb735 59 #[.int .i64 x7_2, .int .i64 (rd t745 x10_3)] (0, 0) _ rfl (by (with_reducible repeat (first | refine kN_ ?_ _ | refine k1_ ?_ | refine kA_ ?_ _)); refine blk_put (cs := #[.int .i64 x7_2, .int .i64 x736001_3]) ?_ 1 _ rfl; (with_reducible repeat (first | refine kN_ ?_ _ | refine k1_ ?_ | refine kA_ ?_ _)); refine blk_put (cs := #[.int .i64 x736000_3, .int .i64 x736001_3]) ?_ 0 _ rfl; (with_reducible repeat (first | refine kN_ ?_ _ | refine k1_ ?_ | refine kA_ ?_ _)); exact BK735.out) Tryd.underlying59 rfl (by kernel_rfl)) rfl ?_
              exact ⟨by first | rfl | (simp [errW_none, errW_some] <;> rfl) | (simp [*, errW_none, errW_some] <;> rfl), by repeat (with_reducible first | exact HB.out | apply bA_ | apply bN_ | apply b1_ | refine bS_ ?_ GE735.out | refine bS_ ?_ GE736.out)⟩
end Go.Proofs.YtfmlamheflbgdaaDoor.PAll
end
section
namespace Go.Proofs.YtfmlamheflbgdaaDoor.PAll
theorem bytesLess_not (x y : List UInt8) : (!(Op.bytesLess x y || x == y)) = Op.bytesLess y x := by
  rw [Go.Proofs.bytesLess_eq, Go.Proofs.bytesLess_eq]
  by_cases h1 : x < y
  · have h2 : ¬ y < x := List.lt_asymm h1
    simp [h1, h2]
  · by_cases h2 : x = y
    · subst h2; simp [h1]
    · have h3 : y < x := by
        rcases Decidable.em (y < x) with h | h
        · exact h
        · exact absurd (List.le_antisymm (List.not_lt.1 h) (List.not_lt.1 h1)) h2
      simp [h1, h2, h3]
theorem gtr_string (t : TypeId) (a b : ByteArray) : binOp .gtr t (.string a) (.string b) = pure (.bool (Op.bytesLess b.toList a.toList)) := by
  rw [← bytesLess_not]
  simp [binOp, Op.stringOp]
end Go.Proofs.YtfmlamheflbgdaaDoor.PAll
end
section
namespace Go.Proofs.YtfmlamheflbgdaaDoor.PAll
open Go.RowKit Go.Proofs.YtfmlamheflbgdaaDoorW.PrintWords Go.Proofs.YtfmlamheflbgdaaDoorW.PrintLast Go.Proofs.YtfmlamheflbgdaaDoorW.PrintMore
attribute [local go_sem] max2_int min2_int max_two min_two max_three min_three max_four min_four
attribute [local go_sem high] gtr_string
set_option linter.unusedVariables false
set_option linter.unusedSimpArgs false
def spec_l6Sort.l0 : Nat → List ByteArray → ByteArray → List ByteArray → Bool → Int → Option (List ByteArray)
  | 0, _, _, _, _, _ => none
  | k + 1, x0, x1, x5, x6, x7 => if x7 < (x0.length : Int) then (if 0 ≤ x7 then (if (rdOf ByteArray.empty x0 x7).toList = x1.toList then (some x0) else (if x6 = true then (if x5.length < 8796093022208 then (spec_l6Sort.l0 k x0 x1 (x5 ++ [rdOf ByteArray.empty x0 x7]) x6 (wrap64 (x7 + 1))) else (none)) else (if (Op.bytesLess x1.toList ((rdOf ByteArray.empty x0 x7).toList)) = true then (if x5.length < 8796093022208 then ((some (x5 ++ [x1] : List ByteArray)).bind fun y877 => (if y877.length < 8796093022208 then (spec_l6Sort.l0 k x0 x1 (y877 ++ [rdOf ByteArray.empty x0 x7]) true (wrap64 (x7 + 1))) else (none))) else (none)) else (if x5.length < 8796093022208 then (spec_l6Sort.l0 k x0 x1 (x5 ++ [rdOf ByteArray.empty x0 x7]) x6 (wrap64 (x7 + 1))) else (none))))) else (none)) else (if x6 = true then (some x5) else (if x5.length < 8796093022208 then (some (x5 ++ [x1])) else (none)))
def spec_l6Sort.f (k : Nat) (l0 : List ByteArray) (a1 : ByteArray) : Option (List ByteArray) := spec_l6Sort.l0 k l0 a1 (([] : List ByteArray)) false 0
theorem spec_l6Sort.mono_l : ∀ k, (∀ y0 y1 y2 y3 y4, LeO (spec_l6Sort.l0 k y0 y1 y2 y3 y4) (spec_l6Sort.l0 (k + 1) y0 y1 y2 y3 y4))
  | 0 => fun _ _ _ _ _ r h => by simp [spec_l6Sort.l0] at h
  | k + 1 => by
    have ih0 := spec_l6Sort.mono_l k
    · intro y0 y1 y2 y3 y4
      unfold spec_l6Sort.l0
      repeat' first
      | (with_reducible exact ih0 _ _ _ _ _)
      | (with_reducible exact LeO.refl _)
      | (with_reducible exact LeO.none _)
      | (with_reducible refine LeO.ite ?_ ?_)
      | (with_reducible refine LeO.bind ?_ (fun _ => ?_))
      | exact LeO.none _
      | refine LeO.ite ?_ ?_
      | refine LeO.bind ?_ (fun _ => ?_)
theorem spec_l6Sort.mono : ∀ a0 a1 k, LeO (spec_l6Sort.f k a0 a1) (spec_l6Sort.f (k + 1) a0 a1) := by
  intro a0 a1 k
  have ih0 := spec_l6Sort.mono_l k
  unfold spec_l6Sort.f
  repeat' first
      | (with_reducible exact ih0 _ _ _ _ _)
      | (with_reducible exact LeO.refl _)
      | (with_reducible exact LeO.none _)
      | (with_reducible refine LeO.ite ?_ ?_)
      | (with_reducible refine LeO.bind ?_ (fun _ => ?_))
      | exact LeO.none _
      | refine LeO.ite ?_ ?_
      | refine LeO.bind ?_ (fun _ => ?_)
set_option maxHeartbeats 8000000 in
set_option maxRecDepth 100000 in
theorem spec_l6Sort.calls (k : Nat) (P0_ : Nat → Prop) (u9000_ : Value) (l0 : List ByteArray) (a1 : ByteArray) (r : List ByteArray) (w0 w : World) (hB : Below w0.heap.size w0 w) (ho0 : Kd.R Kd.string 9 w w0.heap.size P0_ u9000_ l0) (h : spec_l6Sort.f k l0 a1 = some r) :
    Calls Tryd.prog 129 #[u9000_, .string a1] w fun e w' => ∃ v0_ : Value, e = .returned (v0_) ∧ Kd.R Kd.string 9 w' w0.heap.size (fun k_ => (P0_ k_ ∨ w.heap.size ≤ k_)) v0_ r ∧ Below w0.heap.size w0 w' ∧ Kept w w' (fun k_ => P0_ k_) := by
  have HO0 := Ad_.mk (show Kd.R Kd.string 9 w w0.heap.size (fun k_ => (P0_ k_ ∨ w.heap.size ≤ k_)) u9000_ l0 from Kd.R_mono ho0 (fun k_ hk => (.inl hk)))
  have HK := Ad_.mk (Kept.refl w (fun k_ => P0_ k_))
  have HW0 := Ad_.mk hB.size
  have HB := Ad_.mk hB
  clear hB
  have H : (spec_l6Sort.l0 k l0 a1 (([] : List ByteArray)) false 0) = some r := h
  clear h
  obtain ⟨y865, hy865⟩ : ∃ y_ : List ByteArray, y_ = (([] : List ByteArray)) := ⟨_, rfl⟩
  replace H : (spec_l6Sort.l0 k l0 a1 y865 false 0) = some r := by first | (rw [hy865]; with_reducible exact H) | (have H2_ := (Option.bind_some _ _).symm.trans H; rw [hy865]; with_reducible exact H2_) | (have H2_ := (Option.bind_some _ _).symm.trans H; with_reducible exact H2_) | with_reducible exact H | (rw [hy865]; exact H) | exact H
  have Ny865 := Ad_.mk hy865
  clear hy865
  have H' := Ad_.mk H
  clear H
  go_enter Tryd.func129, Tryd.ntmps129
  go_wp2_with (first | ((with_reducible refine gD_ (N := 8) rfl ?_); refine Kd.R_lit Kd.string _ 9 ?hg (N := 8) ?hd (xs := ([] : List ByteArray)) (inner := []) (ok := fun _ => True) (okp := fun _ => True) ?hr ?hp (fun _ hk => hk) trivial (Below.refl _ _) (Nat.le_refl _) (by simp) ?_; (case hd => rfl); (case hg => rfl); (case hr => first | (go_simp; done) | (go_simp; rfl)); (case hp => exact (Reps.none _ _)); intro v866 w3 ho4 hb hg_ hnew_; clear hg_ hnew_; (first | rw [← Ny865.out] at ho4 | (simp only [Int.reduceToNat] at ho4; rw [← Ny865.out] at ho4)); have n0_ := Ad_.mk (Kd.R_elder' (by (with_reducible repeat (first | apply Kd.R_alloc | apply Kd.R_drewN | apply Kd.R_drew)); exact HO0.out) (Kd.R_base ho4) hb); have n1_ := Ad_.mk (Kd.R_lower (Kd.R_new' (Kd.R_newM (M := fun k_ => (P0_ k_ ∨ w.heap.size ≤ k_)) ho4 (by first | exact HK.out.1 | exact (show Kept w _ (fun k_ => P0_ k_) from by repeat (first | (with_reducible first | exact HK.out | apply Kept.alloc | apply Kept.drewN | apply Kept.drew) | exact HK.out)).1) (fun k_ h_ => .inr h_)) (Kd.R_lt (by (with_reducible repeat (first | apply Kd.R_alloc | apply Kd.R_drewN | apply Kd.R_drew)); exact HO0.out))) (bZ_ (by repeat (with_reducible first | exact HB.out | apply bA_ | apply bN_ | apply b1_)))); have n2_ := Ad_.mk (Kept.below (S := (fun k_ => P0_ k_)) (by repeat (first | (with_reducible first | exact HK.out | apply Kept.alloc | apply Kept.drewN | apply Kept.drew) | exact HK.out)) hb); have n3_ := Ad_.mk (bP_ (by repeat (with_reducible first | exact HB.out | apply bA_ | apply bN_ | apply b1_)) hb); clear HO0; clear HK; clear HB; have HO0 := n0_; have HO867 := n1_; have HK := n2_; have HB := n3_; clear n0_ n1_ n2_ n3_; clear hb ho4))
  go_loopg [5, 6, 7] k (fun kq v5 v6 v7 w' => ∃ (x5_1 : List ByteArray) (x6_1 : Bool) (x7_1 : Int), v6 = .bool x6_1 ∧ v7 = .int .i64 x7_1 ∧ Ad_ (spec_l6Sort.l0 kq l0 a1 x5_1 x6_1 x7_1 = some r) ∧ Ad_ (kq ≤ k) ∧ Ad_ (Kd.R Kd.string 9 w' w0.heap.size (fun k_ => (P0_ k_ ∨ w.heap.size ≤ k_) ∧ some k_ ≠ (v5 : Value).ownBlock) u9000_ l0) ∧ Ad_ (Kd.R Kd.string 9 w' w0.heap.size (fun k_ => (P0_ k_ ∨ w.heap.size ≤ k_) ∧ some k_ ≠ (u9000_ : Value).ownBlock) v5 x5_1) ∧ Ad_ (Kept w w' (fun k_ => P0_ k_)) ∧ Ad_ (Below w0.heap.size w0 w'))
  case atStart => exact ⟨(y865), (false), (0), fs_, fs_, H', ⟨Nat.le_refl _⟩, ⟨by (with_reducible repeat (first | apply Kd.R_alloc | apply Kd.R_drewN | apply Kd.R_drew)); exact HO0.out⟩, ⟨by (with_reducible repeat (first | apply Kd.R_alloc | apply Kd.R_drewN | apply Kd.R_drew)); exact Kd.R_mono HO867.out (fun _ hk => ⟨hk.1.1, hk.2⟩)⟩, ⟨by repeat (first | (with_reducible first | exact HK.out | apply Kept.alloc | apply Kept.drewN | apply Kept.drew) | exact HK.out)⟩, ⟨by repeat (with_reducible first | exact HB.out | apply bA_ | apply bN_ | apply b1_)⟩⟩
  case round =>
    clear H'
    try clear p2
    obtain ⟨x5_1, x6_1, x7_1, rfl, rfl, HA, HK1, HO_0, HO_5, HK, HB⟩ := hrel
    cases gk with
    | zero => exact absurd HA.out (by simp [spec_l6Sort.l0])
    | succ k1 =>
      have H := HA.out
      clear HA
      simp only [spec_l6Sort.l0] at H
      by_cases c5 : x7_1 < (l0.length : Int)
      rotate_left
      ·
       rw [if_neg c5] at H
       have c5b0 := decide_eq_false c5
       clear c5
       by_cases c22 : x6_1 = true
       ·
        subst c22
        have H1 : (some x5_1) = some r := by rw [if_pos rfl] at H; exact H
        clear H
        have H := H1
        clear H1
        obtain rfl := Option.some.inj H
        obtain ⟨Ao23, co23, eo23⟩ := Kd.R_slice HO_0.out
        subst eo23
        go_wp2
        go_ret
        exact ⟨_, by first | rfl | (simp [errW_none, errW_some] <;> rfl) | (simp [*, errW_none, errW_some] <;> rfl), by (with_reducible repeat (first | apply Kd.R_alloc | apply Kd.R_drewN | apply Kd.R_drew)); exact Kd.R_mono HO_5.out (fun _ hk => hk.1), by repeat (with_reducible first | exact HB.out | apply bA_ | apply bN_ | apply b1_), by repeat (first | (with_reducible first | exact HK.out | apply Kept.alloc | apply Kept.drewN | apply Kept.drew) | exact HK.out)⟩
       replace c22 := Bool.eq_false_iff.mpr c22
       subst c22
       have H1 : (if x5_1.length < 8796093022208 then (some (x5_1 ++ [a1])) else (none)) = some r := by rw [if_neg (show ¬ (false = true) by decide)] at H; exact H
       clear H
       have H := H1
       clear H1
       by_cases c24 : x5_1.length < 8796093022208
       rotate_left
       ·
        rw [if_neg c24] at H
        exact absurd H (by simp)
       rw [if_pos c24] at H
       have LMc24 := Ad_.mk c24
       clear c24
       obtain ⟨y868, hy868⟩ : ∃ y_ : List ByteArray, y_ = (x5_1 ++ [a1]) := ⟨_, rfl⟩
       replace H : (some y868) = some r := by first | (rw [hy868]; with_reducible exact H) | (have H2_ := (Option.bind_some _ _).symm.trans H; rw [hy868]; with_reducible exact H2_) | (have H2_ := (Option.bind_some _ _).symm.trans H; with_reducible exact H2_) | with_reducible exact H | (rw [hy868]; exact H) | exact H
       have Ny868 := Ad_.mk hy868
       clear hy868
       obtain rfl := Option.some.inj H
       obtain ⟨Ao25, co25, eo25⟩ := Kd.R_slice HO_0.out
       subst eo25
       go_wp2_with (first | ((with_reducible refine gB_ (b := .append) (xs := #[.tmp 45, .tmp 47]) rfl ?_); at_builtin; refine Kd.R_append Kd.string (w0 := w0) w0.heap.size rfl (.tmp 45) (.tmp 47) 104 9 (.string ⟨#[]⟩) 16 rfl Tryd.underlying104 info9 rfl (by decide) (by omega) u5 x5_1 a1 [.string a1] (fun k_ => (P0_ k_ ∨ w.heap.size ≤ k_) ∧ some k_ ≠ (.slice Ao25 l0.length co25 : Value).ownBlock) (fun _ => False) rfl rfl ?aP (fun _ hk => hk.elim) ?aF ?aO ?aB ?aS ?aL ?_; (case aP => exact rfl); (case aB => exact (by repeat (with_reducible first | exact HB.out | apply bA_ | apply bN_ | apply b1_))); (case aF => exact (fun k_ hk => ⟨(.inr (Nat.le_trans (by first | exact HK.out.1 | exact (show Kept w _ (fun k_ => P0_ k_) from by repeat (first | (with_reducible first | exact HK.out | apply Kept.alloc | apply Kept.drewN | apply Kept.drew) | exact HK.out)).1) hk)), Kd.fresh' (Kd.R_lt (by (with_reducible repeat (first | apply Kd.R_alloc | apply Kd.R_drewN | apply Kd.R_drew)); exact HO_0.out)) k_ hk⟩)); (case aO => exact (by (with_reducible repeat (first | apply Kd.R_alloc | apply Kd.R_drewN | apply Kd.R_drew)); exact HO_5.out)); (case aS => exact (bZ_ (by repeat (with_reducible first | exact HB.out | apply bA_ | apply bN_ | apply b1_)))); (case aL => have := LMc24.out; omega); intro v869 w26 ho hb hg hat; rw [← Ny868.out] at ho; have n0_ := Ad_.mk (Kd.R_after (ok := (fun k_ => (P0_ k_ ∨ w.heap.size ≤ k_))) (by (with_reducible repeat (first | apply Kd.R_alloc | apply Kd.R_drewN | apply Kd.R_drew)); exact HO_0.out) hg hat); have n1_ := Ad_.mk (hb); have n2_ := Ad_.mk (Kept.of_grown (S := (fun k_ => P0_ k_)) hg (by repeat (first | (with_reducible first | exact HK.out | apply Kept.alloc | apply Kept.drewN | apply Kept.drew) | exact HK.out)) (fun k_ e_ => (HO_5.out.1 k_ e_).1)); have n3_ := Ad_.mk (ho); clear HO_0; clear HB; clear HK; clear HO_5; have HO_0 := n0_; have HB := n1_; have HK := n2_; have HO870 := n3_; clear n0_ n1_ n2_ n3_; clear ho hb hg hat))
       go_ret
       exact ⟨_, by first | rfl | (simp [errW_none, errW_some] <;> rfl) | (simp [*, errW_none, errW_some] <;> rfl), by (with_reducible repeat (first | apply Kd.R_alloc | apply Kd.R_drewN | apply Kd.R_drew)); exact Kd.R_mono HO870.out (fun _ hk => hk.1), by repeat (with_reducible first | exact HB.out | apply bA_ | apply bN_ | apply b1_), by repeat (first | (with_reducible first | exact HK.out | apply Kept.alloc | apply Kept.drewN | apply Kept.drew) | exact HK.out)⟩
      rw [if_pos c5] at H
      have c5b0 := decide_eq_true c5
      clear c5
      by_cases c6 : 0 ≤ x7_1
      rotate_left
      ·
       rw [if_neg c6] at H
       exact absurd H (by simp)
      rw [if_pos c6] at H
      have c6b0 := decide_eq_true c6
      clear c6
      by_cases c7 : (rdOf ByteArray.empty l0 x7_1).toList = a1.toList
      ·
       rw [if_pos c7] at H
       have c7b0 : ((rdOf ByteArray.empty l0 x7_1).toList == a1.toList) = true := beq_iff_eq.mpr c7
       have c7b1 : ((rdOf ByteArray.empty l0 x7_1).toList != a1.toList) = false := bne_eq_false_iff_eq.mpr c7
       clear c7
       obtain rfl := Option.some.inj H
       obtain ⟨Ao8, co8, eo8⟩ := Kd.R_slice HO_0.out
       subst eo8
       have p871 : 0 ≤ (x7_1 : Int) := od_
       have q871 : x7_1 < (l0.length : Int) := od_
       obtain ⟨ad871, e871, hx871_0⟩ := Kd.at_string (Kd.R_reads' HO_0.out).2.2 x7_1 p871 q871
       cases e871
       replace p871 := eq_true p871
       replace q871 := eq_true q871
       go_wp2
       go_ret
       exact ⟨_, by first | rfl | (simp [errW_none, errW_some] <;> rfl) | (simp [*, errW_none, errW_some] <;> rfl), by (with_reducible repeat (first | apply Kd.R_alloc | apply Kd.R_drewN | apply Kd.R_drew)); exact Kd.R_mono HO_0.out (fun _ hk => hk.1), by repeat (with_reducible first | exact HB.out | apply bA_ | apply bN_ | apply b1_), by repeat (first | (with_reducible first | exact HK.out | apply Kept.alloc | apply Kept.drewN | apply Kept.drew) | exact HK.out)⟩
      rw [if_neg c7] at H
      have c7b0 : ((rdOf ByteArray.empty l0 x7_1).toList == a1.toList) = false := beq_eq_false_iff_ne.mpr c7
      have c7b1 : ((rdOf ByteArray.empty l0 x7_1).toList != a1.toList) = true := bne_iff_ne.mpr c7
      by_cases c9 : x6_1 = true
      ·
       subst c9
       have H1 := H
       rw [if_pos rfl] at H1
       clear H
       have H := H1
       clear H1
       by_cases c10 : x5_1.length < 8796093022208
       rotate_left
       ·
        rw [if_neg c10] at H
        exact absurd H (by simp)
       rw [if_pos c10] at H
       have LMc10 := Ad_.mk c10
       clear c10
       obtain ⟨y873, hy873⟩ : ∃ y_ : List ByteArray, y_ = (x5_1 ++ [rdOf ByteArray.empty l0 x7_1]) := ⟨_, rfl⟩
       replace H : (spec_l6Sort.l0 k1 l0 a1 y873 true (wrap64 (x7_1 + 1))) = some r := by first | (rw [hy873]; with_reducible exact H) | (have H2_ := (Option.bind_some _ _).symm.trans H; rw [hy873]; with_reducible exact H2_) | (have H2_ := (Option.bind_some _ _).symm.trans H; with_reducible exact H2_) | with_reducible exact H | (rw [hy873]; exact H) | exact H
       have Ny873 := Ad_.mk hy873
       clear hy873
       have H' := Ad_.mk H
       clear H
       obtain ⟨Ao11, co11, eo11⟩ := Kd.R_slice HO_0.out
       subst eo11
       have p871 : 0 ≤ (x7_1 : Int) := od_
       have q871 : x7_1 < (l0.length : Int) := od_
       obtain ⟨ad871, e871, hx871_0⟩ := Kd.at_string (Kd.R_reads' HO_0.out).2.2 x7_1 p871 q871
       cases e871
       replace p871 := eq_true p871
       replace q871 := eq_true q871
       have p872 : 0 ≤ (x7_1 : Int) := od_
       have q872 : x7_1 < (l0.length : Int) := od_
       obtain ⟨ad872, e872, hx872_0⟩ := Kd.at_string (Kd.R_reads' HO_0.out).2.2 x7_1 p872 q872
       obtain rfl : ad871 = ad872 := (by injection e872)
       replace p872 := eq_true p872
       replace q872 := eq_true q872
       go_wp2_with (first | ((with_reducible refine gB_ (b := .append) (xs := #[.tmp 36, .tmp 41]) rfl ?_); at_builtin; refine Kd.R_append Kd.string (w0 := w0) w0.heap.size rfl (.tmp 36) (.tmp 41) 104 9 (.string ⟨#[]⟩) 16 rfl Tryd.underlying104 info9 rfl (by decide) (by omega) u5 x5_1 (rdOf ByteArray.empty l0 x7_1) [.string (rdOf ByteArray.empty l0 x7_1)] (fun k_ => (P0_ k_ ∨ w.heap.size ≤ k_) ∧ some k_ ≠ (.slice (some ad871) l0.length co11 : Value).ownBlock) (fun _ => False) rfl rfl ?aP (fun _ hk => hk.elim) ?aF ?aO ?aB ?aS ?aL ?_; (case aP => exact rfl); (case aB => exact (by repeat (with_reducible first | exact HB.out | apply bA_ | apply bN_ | apply b1_))); (case aF => exact (fun k_ hk => ⟨(.inr (Nat.le_trans (by first | exact HK.out.1 | exact (show Kept w _ (fun k_ => P0_ k_) from by repeat (first | (with_reducible first | exact HK.out | apply Kept.alloc | apply Kept.drewN | apply Kept.drew) | exact HK.out)).1) hk)), Kd.fresh' (Kd.R_lt (by (with_reducible repeat (first | apply Kd.R_alloc | apply Kd.R_drewN | apply Kd.R_drew)); exact HO_0.out)) k_ hk⟩)); (case aO => exact (by (with_reducible repeat (first | apply Kd.R_alloc | apply Kd.R_drewN | apply Kd.R_drew)); exact HO_5.out)); (case aS => exact (bZ_ (by repeat (with_reducible first | exact HB.out | apply bA_ | apply bN_ | apply b1_)))); (case aL => have := LMc10.out; omega); intro v874 w12 ho hb hg hat; rw [← Ny873.out] at ho; have n0_ := Ad_.mk (Kd.R_after (ok := (fun k_ => (P0_ k_ ∨ w.heap.size ≤ k_))) (by (with_reducible repeat (first | apply Kd.R_alloc | apply Kd.R_drewN | apply Kd.R_drew)); exact HO_0.out) hg hat); have n1_ := Ad_.mk (hb); have n2_ := Ad_.mk (Kept.of_grown (S := (fun k_ => P0_ k_)) hg (by repeat (first | (with_reducible first | exact HK.out | apply Kept.alloc | apply Kept.drewN | apply Kept.drew) | exact HK.out)) (fun k_ e_ => (HO_5.out.1 k_ e_).1)); have n3_ := Ad_.mk (ho); clear HO_0; clear HB; clear HK; clear HO_5; have HO_0 := n0_; have HB := n1_; have HK := n2_; have HO875 := n3_; clear n0_ n1_ n2_ n3_; clear ho hb hg hat))
       go_roundg k1
       case measure => have := HK1.out; omega
       case rel => exact ⟨(y873), (true), (wrap64 (x7_1 + 1)), fs_, fs_, H', ⟨by have := HK1.out; omega⟩, ⟨by (with_reducible repeat (first | apply Kd.R_alloc | apply Kd.R_drewN | apply Kd.R_drew)); exact HO_0.out⟩, ⟨by (with_reducible repeat (first | apply Kd.R_alloc | apply Kd.R_drewN | apply Kd.R_drew)); exact HO875.out⟩, ⟨by repeat (first | (with_reducible first | exact HK.out | apply Kept.alloc | apply Kept.drewN | apply Kept.drew) | exact HK.out)⟩, ⟨by repeat (with_reducible first | exact HB.out | apply bA_ | apply bN_ | apply b1_)⟩⟩
      replace c9 := Bool.eq_false_iff.mpr c9
      subst c9
      have H1 : (if (Op.bytesLess a1.toList ((rdOf ByteArray.empty l0 x7_1).toList)) = true then (if x5_1.length < 8796093022208 then ((some (x5_1 ++ [a1] : List ByteArray)).bind fun y877 => (if y877.length < 8796093022208 then (spec_l6Sort.l0 k1 l0 a1 (y877 ++ [rdOf ByteArray.empty l0 x7_1]) true (wrap64 (x7_1 + 1))) else (none))) else (none)) else (if x5_1.length < 8796093022208 then (spec_l6Sort.l0 k1 l0 a1 (x5_1 ++ [rdOf ByteArray.empty l0 x7_1]) false (wrap64 (x7_1 + 1))) else (none))) = some r := by rw [if_neg (show ¬ (false = true) by decide)] at H; exact H
      clear H
      have H := H1
      clear H1
      by_cases c13 : (Op.bytesLess a1.toList ((rdOf ByteArray.empty l0 x7_1).toList)) = true
      rotate_left
      ·
       rw [if_neg c13] at H
       have c13b0 : (Op.bytesLess a1.toList ((rdOf ByteArray.empty l0 x7_1).toList)) = false := by simpa using c13
       clear c13
       by_cases c19 : x5_1.length < 8796093022208
       rotate_left
       ·
        rw [if_neg c19] at H
        exact absurd H (by simp)
       rw [if_pos c19] at H
       have LMc19 := Ad_.mk c19
       clear c19
       obtain ⟨y885, hy885⟩ : ∃ y_ : List ByteArray, y_ = (x5_1 ++ [rdOf ByteArray.empty l0 x7_1]) := ⟨_, rfl⟩
       replace H : (spec_l6Sort.l0 k1 l0 a1 y885 false (wrap64 (x7_1 + 1))) = some r := by first | (rw [hy885]; with_reducible exact H) | (have H2_ := (Option.bind_some _ _).symm.trans H; rw [hy885]; with_reducible exact H2_) | (have H2_ := (Option.bind_some _ _).symm.trans H; with_reducible exact H2_) | with_reducible exact H | (rw [hy885]; exact H) | exact H
       have Ny885 := Ad_.mk hy885
       clear hy885
       have H' := Ad_.mk H
       clear H
       obtain ⟨Ao20, co20, eo20⟩ := Kd.R_slice HO_0.out
       subst eo20
       have p871 : 0 ≤ (x7_1 : Int) := od_
       have q871 : x7_1 < (l0.length : Int) := od_
       obtain ⟨ad871, e871, hx871_0⟩ := Kd.at_string (Kd.R_reads' HO_0.out).2.2 x7_1 p871 q871
       cases e871
       replace p871 := eq_true p871
       replace q871 := eq_true q871
       have p876 : 0 ≤ (x7_1 : Int) := od_
       have q876 : x7_1 < (l0.length : Int) := od_
       obtain ⟨ad876, e876, hx876_0⟩ := Kd.at_string (Kd.R_reads' HO_0.out).2.2 x7_1 p876 q876
       obtain rfl : ad871 = ad876 := (by injection e876)
       replace p876 := eq_true p876
       replace q876 := eq_true q876
       have p884 : 0 ≤ (x7_1 : Int) := od_
       have q884 : x7_1 < (l0.length : Int) := od_
       obtain ⟨ad884, e884, hx884_0⟩ := Kd.at_string (Kd.R_reads' HO_0.out).2.2 x7_1 p884 q884
       obtain rfl : ad871 = ad884 := (by injection e884)
       replace p884 := eq_true p884
       replace q884 := eq_true q884
       go_wp2_with (first | ((with_reducible refine gB_ (b := .append) (xs := #[.tmp 36, .tmp 41]) rfl ?_); at_builtin; refine Kd.R_append Kd.string (w0 := w0) w0.heap.size rfl (.tmp 36) (.tmp 41) 104 9 (.string ⟨#[]⟩) 16 rfl Tryd.underlying104 info9 rfl (by decide) (by omega) u5 x5_1 (rdOf ByteArray.empty l0 x7_1) [.string (rdOf ByteArray.empty l0 x7_1)] (fun k_ => (P0_ k_ ∨ w.heap.size ≤ k_) ∧ some k_ ≠ (.slice (some ad871) l0.length co20 : Value).ownBlock) (fun _ => False) rfl rfl ?aP (fun _ hk => hk.elim) ?aF ?aO ?aB ?aS ?aL ?_; (case aP => exact rfl); (case aB => exact (by repeat (with_reducible first | exact HB.out | apply bA_ | apply bN_ | apply b1_))); (case aF => exact (fun k_ hk => ⟨(.inr (Nat.le_trans (by first | exact HK.out.1 | exact (show Kept w _ (fun k_ => P0_ k_) from by repeat (first | (with_reducible first | exact HK.out | apply Kept.alloc | apply Kept.drewN | apply Kept.drew) | exact HK.out)).1) hk)), Kd.fresh' (Kd.R_lt (by (with_reducible repeat (first | apply Kd.R_alloc | apply Kd.R_drewN | apply Kd.R_drew)); exact HO_0.out)) k_ hk⟩)); (case aO => exact (by (with_reducible repeat (first | apply Kd.R_alloc | apply Kd.R_drewN | apply Kd.R_drew)); exact HO_5.out)); (case aS => exact (bZ_ (by repeat (with_reducible first | exact HB.out | apply bA_ | apply bN_ | apply b1_)))); (case aL => have := LMc19.out; omega); intro v886 w21 ho hb hg hat; rw [← Ny885.out] at ho; have n0_ := Ad_.mk (Kd.R_after (ok := (fun k_ => (P0_ k_ ∨ w.heap.size ≤ k_))) (by (with_reducible repeat (first | apply Kd.R_alloc | apply Kd.R_drewN | apply Kd.R_drew)); exact HO_0.out) hg hat); have n1_ := Ad_.mk (hb); have n2_ := Ad_.mk (Kept.of_grown (S := (fun k_ => P0_ k_)) hg (by repeat (first | (with_reducible first | exact HK.out | apply Kept.alloc | apply Kept.drewN | apply Kept.drew) | exact HK.out)) (fun k_ e_ => (HO_5.out.1 k_ e_).1)); have n3_ := Ad_.mk (ho); clear HO_0; clear HB; clear HK; clear HO_5; have HO_0 := n0_; have HB := n1_; have HK := n2_; have HO887 := n3_; clear n0_ n1_ n2_ n3_; clear ho hb hg hat))
       go_roundg k1
       case measure => have := HK1.out; omega
       case rel => exact ⟨(y885), (false), (wrap64 (x7_1 + 1)), fs_, fs_, H', ⟨by have := HK1.out; omega⟩, ⟨by (with_reducible repeat (first | apply Kd.R_alloc | apply Kd.R_drewN | apply Kd.R_drew)); exact HO_0.out⟩, ⟨by (with_reducible repeat (first | apply Kd.R_alloc | apply Kd.R_drewN | apply Kd.R_drew)); exact HO887.out⟩, ⟨by repeat (first | (with_reducible first | exact HK.out | apply Kept.alloc | apply Kept.drewN | apply Kept.drew) | exact HK.out)⟩, ⟨by repeat (with_reducible first | exact HB.out | apply bA_ | apply bN_ | apply b1_)⟩⟩
      rw [if_pos c13] at H
      have c13b0 : (Op.bytesLess a1.toList ((rdOf ByteArray.empty l0 x7_1).toList)) = true := c13
      clear c13
      by_cases c14 : x5_1.length < 8796093022208
      rotate_left
      ·
       rw [if_neg c14] at H
       exact absurd H (by simp)
      rw [if_pos c14] at H
      have LMc14 := Ad_.mk c14
      clear c14
      obtain ⟨y877, hy877⟩ : ∃ y_ : List ByteArray, y_ = (x5_1 ++ [a1]) := ⟨_, rfl⟩
      replace H : (if y877.length < 8796093022208 then (spec_l6Sort.l0 k1 l0 a1 (y877 ++ [rdOf ByteArray.empty l0 x7_1]) true (wrap64 (x7_1 + 1))) else (none)) = some r := by first | (rw [hy877]; with_reducible exact H) | (have H2_ := (Option.bind_some _ _).symm.trans H; rw [hy877]; with_reducible exact H2_) | (have H2_ := (Option.bind_some _ _).symm.trans H; with_reducible exact H2_) | with_reducible exact H | (rw [hy877]; exact H) | exact H
      have Ny877 := Ad_.mk hy877
      clear hy877
      by_cases c15 : y877.length < 8796093022208
      rotate_left
      ·
       rw [if_neg c15] at H
       exact absurd H (by simp)
      rw [if_pos c15] at H
      have LMc15 := Ad_.mk c15
      clear c15
      obtain ⟨y881, hy881⟩ : ∃ y_ : List ByteArray, y_ = (y877 ++ [rdOf ByteArray.empty l0 x7_1]) := ⟨_, rfl⟩
      replace H : (spec_l6Sort.l0 k1 l0 a1 y881 true (wrap64 (x7_1 + 1))) = some r := by first | (rw [hy881]; with_reducible exact H) | (have H2_ := (Option.bind_some _ _).symm.trans H; rw [hy881]; with_reducible exact H2_) | (have H2_ := (Option.bind_some _ _).symm.trans H; with_reducible exact H2_) | with_reducible exact H | (rw [hy881]; exact H) | exact H
      have Ny881 := Ad_.mk hy881
      clear hy881
      have H' := Ad_.mk H
      clear H
      obtain ⟨Ao16, co16, eo16⟩ := Kd.R_slice HO_0.out
      subst eo16
      have p871 : 0 ≤ (x7_1 : Int) := od_
      have q871 : x7_1 < (l0.length : Int) := od_
      obtain ⟨ad871, e871, hx871_0⟩ := Kd.at_string (Kd.R_reads' HO_0.out).2.2 x7_1 p871 q871
      cases e871
      replace p871 := eq_true p871
      replace q871 := eq_true q871
      have p876 : 0 ≤ (x7_1 : Int) := od_
      have q876 : x7_1 < (l0.length : Int) := od_
      obtain ⟨ad876, e876, hx876_0⟩ := Kd.at_string (Kd.R_reads' HO_0.out).2.2 x7_1 p876 q876
      obtain rfl : ad871 = ad876 := (by injection e876)
      replace p876 := eq_true p876
      replace q876 := eq_true q876
      go_wp2_with (first | ((with_reducible refine gB_ (b := .append) (xs := #[.tmp 32, .tmp 34]) rfl ?_); at_builtin; refine Kd.R_append Kd.string (w0 := w0) w0.heap.size rfl (.tmp 32) (.tmp 34) 104 9 (.string ⟨#[]⟩) 16 rfl Tryd.underlying104 info9 rfl (by decide) (by omega) u5 x5_1 a1 [.string a1] (fun k_ => (P0_ k_ ∨ w.heap.size ≤ k_) ∧ some k_ ≠ (.slice (some ad871) l0.length co16 : Value).ownBlock) (fun _ => False) rfl rfl ?aP (fun _ hk => hk.elim) ?aF ?aO ?aB ?aS ?aL ?_; (case aP => exact rfl); (case aB => exact (by repeat (with_reducible first | exact HB.out | apply bA_ | apply bN_ | apply b1_))); (case aF => exact (fun k_ hk => ⟨(.inr (Nat.le_trans (by first | exact HK.out.1 | exact (show Kept w _ (fun k_ => P0_ k_) from by repeat (first | (with_reducible first | exact HK.out | apply Kept.alloc | apply Kept.drewN | apply Kept.drew) | exact HK.out)).1) hk)), Kd.fresh' (Kd.R_lt (by (with_reducible repeat (first | apply Kd.R_alloc | apply Kd.R_drewN | apply Kd.R_drew)); exact HO_0.out)) k_ hk⟩)); (case aO => exact (by (with_reducible repeat (first | apply Kd.R_alloc | apply Kd.R_drewN | apply Kd.R_drew)); exact HO_5.out)); (case aS => exact (bZ_ (by repeat (with_reducible first | exact HB.out | apply bA_ | apply bN_ | apply b1_)))); (case aL => have := LMc14.out; omega); intro v878 w17 ho hb hg hat; rw [← Ny877.out] at ho; have n0_ := Ad_.mk (Kd.R_after (ok := (fun k_ => (P0_ k_ ∨ w.heap.size ≤ k_))) (by (with_reducible repeat (first | apply Kd.R_alloc | apply Kd.R_drewN | apply Kd.R_drew)); exact HO_0.out) hg hat); have n1_ := Ad_.mk (hb); have n2_ := Ad_.mk (Kept.of_grown (S := (fun k_ => P0_ k_)) hg (by repeat (first | (with_reducible first | exact HK.out | apply Kept.alloc | apply Kept.drewN | apply Kept.drew) | exact HK.out)) (fun k_ e_ => (HO_5.out.1 k_ e_).1)); have n3_ := Ad_.mk (ho); clear HO_0; clear HB; clear HK; clear HO_5; have HO_0 := n0_; have HB := n1_; have HK := n2_; have HO879 := n3_; clear n0_ n1_ n2_ n3_; clear ho hb hg hat; have p880 : 0 ≤ (x7_1 : Int) := od_; have q880 : x7_1 < (l0.length : Int) := od_; obtain ⟨ad880, e880, hx880_0⟩ := Kd.at_string (Kd.R_reads' HO_0.out).2.2 x7_1 p880 q880; obtain rfl : ad871 = ad880 := (by injection e880); replace p880 := eq_true p880; replace q880 := eq_true q880) | ((with_reducible refine gB_ (b := .append) (xs := #[.tmp 36, .tmp 41]) rfl ?_); at_builtin; refine Kd.R_append Kd.string (w0 := w0) w0.heap.size rfl (.tmp 36) (.tmp 41) 104 9 (.string ⟨#[]⟩) 16 rfl Tryd.underlying104 info9 rfl (by decide) (by omega) v878 y877 (rdOf ByteArray.empty l0 x7_1) [.string (rdOf ByteArray.empty l0 x7_1)] (fun k_ => (P0_ k_ ∨ w.heap.size ≤ k_) ∧ some k_ ≠ (.slice (some ad871) l0.length co16 : Value).ownBlock) (fun _ => False) rfl rfl ?aP (fun _ hk => hk.elim) ?aF ?aO ?aB ?aS ?aL ?_; (case aP => exact rfl); (case aB => exact (by repeat (with_reducible first | exact HB.out | apply bA_ | apply bN_ | apply b1_))); (case aF => exact (fun k_ hk => ⟨(.inr (Nat.le_trans (by first | exact HK.out.1 | exact (show Kept w _ (fun k_ => P0_ k_) from by repeat (first | (with_reducible first | exact HK.out | apply Kept.alloc | apply Kept.drewN | apply Kept.drew) | exact HK.out)).1) hk)), Kd.fresh' (Kd.R_lt (by (with_reducible repeat (first | apply Kd.R_alloc | apply Kd.R_drewN | apply Kd.R_drew)); exact HO_0.out)) k_ hk⟩)); (case aO => exact (by (with_reducible repeat (first | apply Kd.R_alloc | apply Kd.R_drewN | apply Kd.R_drew)); exact HO879.out)); (case aS => exact (bZ_ (by repeat (with_reducible first | exact HB.out | apply bA_ | apply bN_ | apply b1_)))); (case aL => have := LMc15.out; omega); intro v882 w18 ho hb hg hat; rw [← Ny881.out] at ho; have n0_ := Ad_.mk (Kd.R_after (ok := (fun k_ => (P0_ k_ ∨ w.heap.size ≤ k_))) (by (with_reducible repeat (first | apply Kd.R_alloc | apply Kd.R_drewN | apply Kd.R_drew)); exact HO_0.out) hg hat); have n1_ := Ad_.mk (hb); have n2_ := Ad_.mk (Kept.of_grown (S := (fun k_ => P0_ k_)) hg (by repeat (first | (with_reducible first | exact HK.out | apply Kept.alloc | apply Kept.drewN | apply Kept.drew) | exact HK.out)) (fun k_ e_ => (HO879.out.1 k_ e_).1)); have n3_ := Ad_.mk (ho); clear HO_0; clear HB; clear HK; clear HO879; have HO_0 := n0_; have HB := n1_; have HK := n2_; have HO883 := n3_; clear n0_ n1_ n2_ n3_; clear ho hb hg hat))
      go_roundg k1
      case measure => have := HK1.out; omega
      case rel => exact ⟨(y881), (true), (wrap64 (x7_1 + 1)), fs_, fs_, H', ⟨by have := HK1.out; omega⟩, ⟨by (with_reducible repeat (first | apply Kd.R_alloc | apply Kd.R_drewN | apply Kd.R_drew)); exact HO_0.out⟩, ⟨by (with_reducible repeat (first | apply Kd.R_alloc | apply Kd.R_drewN | apply Kd.R_drew)); exact HO883.out⟩, ⟨by repeat (first | (with_reducible first | exact HK.out | apply Kept.alloc | apply Kept.drewN | apply Kept.drew) | exact HK.out)⟩, ⟨by repeat (with_reducible first | exact HB.out | apply bA_ | apply bN_ | apply b1_)⟩⟩
end Go.Proofs.YtfmlamheflbgdaaDoor.PAll
end
section
namespace Go.Proofs.YtfmlamheflbgdaaDoor.PAll
open Go.RowKit Go.Proofs.YtfmlamheflbgdaaDoorW.PrintWords Go.Proofs.YtfmlamheflbgdaaDoorW.PrintLast Go.Proofs.YtfmlamheflbgdaaDoorW.PrintMore
attribute [local go_sem] max2_int min2_int max_two min_two max_three min_three max_four min_four
attribute [local go_sem high] fieldBind_0
set_option linter.unusedVariables false
set_option linter.unusedSimpArgs false
mutual
def spec_FreeNames.l0 : Nat → List (S55) → List ByteArray → Int → Option (List ByteArray)
  | 0, _, _, _ => none
  | k + 1, x0, x3, x4 => if x4 < (x0.length : Int) then ((spec_NodesOk.f k x0).bind fun t891 => (spec_FreeNames.j1 k x0 x3 x4 t891)) else (spec_FreeNames.j1 k x0 x3 x4 false)
def spec_FreeNames.j1 : Nat → List (S55) → List ByteArray → Int → Bool → Option (List ByteArray)
  | 0, _, _, _, _ => none
  | k + 1, x0, x3, x4, x13 => if x13 = true then (if 0 ≤ x4 then (if x4 < (x0.length : Int) then (if ((rd_T55 x0 x4).f0) = 1 then ((spec_BinderOf.f k x0 x4).bind fun bt893 => (if bt893.1 < 0 then ((spec_l6Sort.f k x3 ((rd_T55 x0 x4).f5)).bind fun t896 => (spec_FreeNames.l0 k x0 t896 (wrap64 (x4 + 1)))) else (spec_FreeNames.l0 k x0 x3 (wrap64 (x4 + 1))))) else (spec_FreeNames.l0 k x0 x3 (wrap64 (x4 + 1)))) else (none)) else (none)) else (some x3)
end
def spec_FreeNames.f (k : Nat) (l0 : List (S55)) : Option (List ByteArray) := spec_FreeNames.l0 k l0 (([] : List ByteArray)) 0
theorem spec_FreeNames.mono_l : ∀ k, (∀ y0 y1 y2, LeO (spec_FreeNames.l0 k y0 y1 y2) (spec_FreeNames.l0 (k + 1) y0 y1 y2)) ∧ (∀ y0 y1 y2 y3, LeO (spec_FreeNames.j1 k y0 y1 y2 y3) (spec_FreeNames.j1 (k + 1) y0 y1 y2 y3))
  | 0 => ⟨fun _ _ _ r h => by simp [spec_FreeNames.l0] at h, fun _ _ _ _ r h => by simp [spec_FreeNames.j1] at h⟩
  | k + 1 => by
    obtain ⟨ih0, ih1⟩ := spec_FreeNames.mono_l k
    refine ⟨?_, ?_⟩
    (intro y0 y1 y2; unfold spec_FreeNames.l0; rotate_left)
    (intro y0 y1 y2 y3; unfold spec_FreeNames.j1; rotate_left)
    all_goals
      repeat' first
      | (with_reducible exact ih0 _ _ _)
      | (with_reducible exact ih1 _ _ _ _)
      | (with_reducible exact spec_BinderOf.mono _ _ _)
      | (with_reducible exact spec_NodesOk.mono _ _)
      | (with_reducible exact spec_l6Sort.mono _ _ _)
      | (with_reducible exact LeO.refl _)
      | (with_reducible exact LeO.none _)
      | (with_reducible refine LeO.ite ?_ ?_)
      | (with_reducible refine LeO.bind ?_ (fun _ => ?_))
      | exact LeO.none _
      | refine LeO.ite ?_ ?_
      | refine LeO.bind ?_ (fun _ => ?_)
theorem spec_FreeNames.mono : ∀ a0 k, LeO (spec_FreeNames.f k a0) (spec_FreeNames.f (k + 1) a0) := by
  intro a0 k
  obtain ⟨ih0, ih1⟩ := spec_FreeNames.mono_l k
  unfold spec_FreeNames.f
  repeat' first
      | (with_reducible exact ih0 _ _ _)
      | (with_reducible exact ih1 _ _ _ _)
      | (with_reducible exact spec_BinderOf.mono _ _ _)
      | (with_reducible exact spec_NodesOk.mono _ _)
      | (with_reducible exact spec_l6Sort.mono _ _ _)
      | (with_reducible exact LeO.refl _)
      | (with_reducible exact LeO.none _)
      | (with_reducible refine LeO.ite ?_ ?_)
      | (with_reducible refine LeO.bind ?_ (fun _ => ?_))
      | exact LeO.none _
      | refine LeO.ite ?_ ?_
      | refine LeO.bind ?_ (fun _ => ?_)
set_option maxHeartbeats 8000000 in
set_option maxRecDepth 100000 in
theorem spec_FreeNames.calls (k : Nat) (A0 : Option Addr) (c0 : Nat) (l0 : List (S55)) (r : List ByteArray) (w : World) (hr0 : Kd.C k55 w A0 l0.length l0) (hc0 : l0.length ≤ c0) (h : spec_FreeNames.f k l0 = some r) :
    Calls Tryd.prog 112 #[.slice A0 l0.length c0] w fun e w' => ∃ v0_ : Value, e = .returned (v0_) ∧ Kd.R Kd.string 9 w' w.heap.size (fun _ => True) v0_ r ∧ Below w.heap.size w w' := by
  have hu59 := Tryd.underlying59
  have HR0 := Ad_.mk hr0
  have HC0 := Ad_.mk hc0
  clear hr0 hc0
  have HB := Ad_.mk (Below.refl w.heap.size w)
  have H : (spec_FreeNames.l0 k l0 (([] : List ByteArray)) 0) = some r := h
  clear h
  obtain ⟨y888, hy888⟩ : ∃ y_ : List ByteArray, y_ = (([] : List ByteArray)) := ⟨_, rfl⟩
  replace H : (spec_FreeNames.l0 k l0 y888 0) = some r := by first | (rw [hy888]; with_reducible exact H) | (have H2_ := (Option.bind_some _ _).symm.trans H; rw [hy888]; with_reducible exact H2_) | (have H2_ := (Option.bind_some _ _).symm.trans H; with_reducible exact H2_) | with_reducible exact H | (rw [hy888]; exact H) | exact H
  have Ny888 := Ad_.mk hy888
  clear hy888
  have H' := Ad_.mk H
  clear H
  go_enter Tryd.func112, Tryd.ntmps112
  go_wp2_with (first | ((with_reducible refine gD_ (N := 5) rfl ?_); refine Kd.R_lit Kd.string _ 9 ?hg (N := 5) ?hd (xs := ([] : List ByteArray)) (inner := []) (ok := fun _ => True) (okp := fun _ => True) ?hr ?hp (fun _ hk => hk) trivial (Below.refl _ _) (Nat.le_refl _) (by simp) ?_; (case hd => rfl); (case hg => rfl); (case hr => first | (go_simp; done) | (go_simp; rfl)); (case hp => exact (Reps.none _ _)); intro v889 w2 ho3 hb hg_ hnew_; clear hg_ hnew_; (first | rw [← Ny888.out] at ho3 | (simp only [Int.reduceToNat] at ho3; rw [← Ny888.out] at ho3)); have n0_ := Ad_.mk (Kd.R_lower ho3 (bZ_ (by repeat (with_reducible first | exact HB.out | apply bA_ | apply bN_ | apply b1_)))); have n1_ := Ad_.mk (bP_ (by repeat (with_reducible first | exact HB.out | apply bA_ | apply bN_ | apply b1_)) hb); clear HB; have HO890 := n0_; have HB := n1_; clear n0_ n1_; clear hb ho3))
  go_loopg [3, 4] k (fun kq v3 v4 w' => ∃ (x3_1 : List ByteArray) (x4_1 : Int), v4 = .int .i64 x4_1 ∧ Ad_ (spec_FreeNames.l0 kq l0 x3_1 x4_1 = some r) ∧ Ad_ (kq ≤ k) ∧ Ad_ (Kd.R Kd.string 9 w' w.heap.size (fun _ => True) v3 x3_1) ∧ Ad_ (Below w.heap.size w w'))
  case atStart => exact ⟨(y888), (0), fs_, H', ⟨Nat.le_refl _⟩, ⟨by (with_reducible repeat (first | apply Kd.R_alloc | apply Kd.R_drewN | apply Kd.R_drew)); exact HO890.out⟩, ⟨by repeat (with_reducible first | exact HB.out | apply bA_ | apply bN_ | apply b1_)⟩⟩
  case round =>
    clear H'
    try clear p2
    obtain ⟨x3_1, x4_1, rfl, HA, HK1, HO_3, HB⟩ := hrel
    cases gk with
    | zero => exact absurd HA.out (by simp [spec_FreeNames.l0])
    | succ k1 =>
      have H := HA.out
      clear HA
      simp only [spec_FreeNames.l0] at H
      have HC4 := Ad_.mk H
      clear H
      go_upto_region 3 with (fail)
      go_cut [13] (fun v13 wc => ∃ (kq : Nat) (x13_3 : Bool), v13 = .bool x13_3 ∧ Ad_ (spec_FreeNames.j1 kq l0 x3_1 x4_1 x13_3 = some r) ∧ Ad_ (kq ≤ k1) ∧ Ad_ (Kd.R Kd.string 9 wc w.heap.size (fun _ => True) u3 x3_1) ∧ Ad_ (Below w.heap.size w wc))
      case first =>
        have H := HC4.out
        clear HC4
        by_cases c5 : x4_1 < (l0.length : Int)
        rotate_left
        ·
         rw [if_neg c5] at H
         have c5b0 := decide_eq_false c5
         clear c5
         (first | rw [c5b0] | (simp only [i64_w, i32_w]; rw [c5b0]) | skip)
         have H' := Ad_.mk H
         clear H
         go_wp2
         go_meet
         case rel => exact ⟨_, (false), fs_, H', ⟨by have := HK1.out; first | omega | exact Nat.le_refl _⟩, ⟨by (with_reducible repeat (first | apply Kd.R_alloc | apply Kd.R_drewN | apply Kd.R_drew)); exact HO_3.out⟩, ⟨by repeat (with_reducible first | exact HB.out | apply bA_ | apply bN_ | apply b1_)⟩⟩
        rw [if_pos c5] at H
        have c5b0 := decide_eq_true c5
        clear c5
        (first | rw [c5b0] | (simp only [i64_w, i32_w]; rw [c5b0]) | skip)
        replace H := Option.bind_eq_some_iff.mp H
        obtain ⟨t891, A60, H⟩ := H
        try dsimp only at H
        have A6 := Ad_.mk A60
        clear A60
        have H' := Ad_.mk H
        clear H
        go_wp2_with (first | (go_at_call 49; (with_reducible refine (spec_NodesOk.calls k1 _ _ l0 t891 _ ?side1 ?side2 A6.out).mono ?_); (case side1 => repeat (first | exact (Kd.C_below HR0.out HB.out) | (with_reducible refine Kd.C_alloc ?_ _) | (with_reducible refine Kd.C_drewN ?_ _) | (with_reducible refine Kd.C_drew ?_))); (case side2 => exact HC0.out); rintro e w7 ⟨rfl, hb⟩; have n0_ := Ad_.mk (Kd.R_below (by (with_reducible repeat (first | apply Kd.R_alloc | apply Kd.R_drewN | apply Kd.R_drew)); exact HO_3.out) hb); have n1_ := Ad_.mk (bP_ (by repeat (with_reducible first | exact HB.out | apply bA_ | apply bN_ | apply b1_)) hb); clear HO_3; clear HB; have HO_3 := n0_; have HB := n1_; clear n0_ n1_; (try clear hb); (try clear hb2); (try clear hk); (try clear hi)))
        go_meet
        case rel => exact ⟨_, (t891), fs_, H', ⟨by have := HK1.out; first | omega | exact Nat.le_refl _⟩, ⟨by (with_reducible repeat (first | apply Kd.R_alloc | apply Kd.R_drewN | apply Kd.R_drew)); exact HO_3.out⟩, ⟨by repeat (with_reducible first | exact HB.out | apply bA_ | apply bN_ | apply b1_)⟩⟩
      case rest =>
        clear HC4
        try clear p2
        try clear c5b0
        try clear p2
        obtain ⟨kq, x13_3, rfl, HA, HJ3, HO_3, HB⟩ := hcut
        cases kq with
        | zero => exact absurd HA.out (by simp [spec_FreeNames.j1])
        | succ kj3 =>
          have H := HA.out
          clear HA
          simp only [spec_FreeNames.j1] at H
          by_cases c8 : x13_3 = true
          rotate_left
          ·
           replace c8 := Bool.eq_false_iff.mpr c8
           subst c8
           have H1 : (some x3_1) = some r := by rw [if_neg (show ¬ (false = true) by decide)] at H; exact H
           clear H
           have H := H1
           clear H1
           obtain rfl := Option.some.inj H
           go_wp2
           go_ret
           exact ⟨_, by first | rfl | (simp [errW_none, errW_some] <;> rfl) | (simp [*, errW_none, errW_some] <;> rfl), by (with_reducible repeat (first | apply Kd.R_alloc | apply Kd.R_drewN | apply Kd.R_drew)); exact HO_3.out, by repeat (with_reducible first | exact HB.out | apply bA_ | apply bN_ | apply b1_)⟩
          subst c8
          have H1 := H
          rw [if_pos rfl] at H1
          clear H
          have H := H1
          clear H1
          by_cases c9 : 0 ≤ x4_1
          rotate_left
          ·
           rw [if_neg c9] at H
           exact absurd H (by simp)
          rw [if_pos c9] at H
          have c9b0 := decide_eq_true c9
          clear c9
          by_cases c10 : x4_1 < (l0.length : Int)
          rotate_left
          ·
           rw [if_neg c10] at H
           exact absurd H (by simp)
          rw [if_pos c10] at H
          have c10b0 := decide_eq_true c10
          clear c10
          by_cases c11 : ((rd_T55 l0 x4_1).f0) = 1
          rotate_left
          ·
           rw [if_neg c11] at H
           have c11b0 : (((rd_T55 l0 x4_1).f0) == 1) = false := beq_eq_false_iff_ne.mpr c11
           have c11b1 : (((rd_T55 l0 x4_1).f0) != 1) = true := bne_iff_ne.mpr c11
           have H' := Ad_.mk H
           clear H
           have p892 : 0 ≤ (x4_1 : Int) := od_
           have q892 : x4_1 < (l0.length : Int) := od_
           obtain ⟨ad892, e892, hx892_0, hx892_1, hx892_2, hx892_3, hx892_4, hx892_5, hx892_6⟩ := at_T55 HR0.out x4_1 p892 q892
           cases e892
           replace hx892_0 := pB_ HB.out hx892_0
           replace hx892_1 := pB_ HB.out hx892_1
           replace hx892_2 := pB_ HB.out hx892_2
           replace hx892_3 := pB_ HB.out hx892_3
           replace hx892_4 := pB_ HB.out hx892_4
           replace hx892_5 := pB_ HB.out hx892_5
           replace hx892_6 := pB_ HB.out hx892_6
           replace p892 := eq_true p892
           replace q892 := eq_true q892
           go_wp2
           go_roundg kj3
           case measure => have := HK1.out; have := HJ3.out; omega
           case rel => exact ⟨(x3_1), (wrap64 (x4_1 + 1)), fs_, H', ⟨by have := HK1.out; have := HJ3.out; omega⟩, ⟨by (with_reducible repeat (first | apply Kd.R_alloc | apply Kd.R_drewN | apply Kd.R_drew)); exact HO_3.out⟩, ⟨by repeat (with_reducible first | exact HB.out | apply bA_ | apply bN_ | apply b1_)⟩⟩
          rw [if_pos c11] at H
          have c11b0 : (((rd_T55 l0 x4_1).f0) == 1) = true := beq_iff_eq.mpr c11
          have c11b1 : (((rd_T55 l0 x4_1).f0) != 1) = false := bne_eq_false_iff_eq.mpr c11
          clear c11
          replace H := Option.bind_eq_some_iff.mp H
          obtain ⟨⟨t893, t894⟩, A120, H⟩ := H
          try dsimp only at H
          have A12 := Ad_.mk A120
          clear A120
          by_cases c13 : t893 < 0
          rotate_left
          ·
           rw [if_neg c13] at H
           have c13b0 := decide_eq_false c13
           clear c13
           have H' := Ad_.mk H
           clear H
           have p892 : 0 ≤ (x4_1 : Int) := od_
           have q892 : x4_1 < (l0.length : Int) := od_
           obtain ⟨ad892, e892, hx892_0, hx892_1, hx892_2, hx892_3, hx892_4, hx892_5, hx892_6⟩ := at_T55 HR0.out x4_1 p892 q892
           cases e892
           replace hx892_0 := pB_ HB.out hx892_0
           replace hx892_1 := pB_ HB.out hx892_1
           replace hx892_2 := pB_ HB.out hx892_2
           replace hx892_3 := pB_ HB.out hx892_3
           replace hx892_4 := pB_ HB.out hx892_4
           replace hx892_5 := pB_ HB.out hx892_5
           replace hx892_6 := pB_ HB.out hx892_6
           replace p892 := eq_true p892
           replace q892 := eq_true q892
           go_wp2_with (first | (go_at_call 83; (with_reducible refine (spec_BinderOf.calls kj3 _ _ l0 x4_1 t893 t894 _ ?side1 ?side2 A12.out).mono ?_); (case side1 => repeat (first | exact (Kd.C_below HR0.out HB.out) | (with_reducible refine Kd.C_alloc ?_ _) | (with_reducible refine Kd.C_drewN ?_ _) | (with_reducible refine Kd.C_drew ?_))); (case side2 => exact HC0.out); rintro e w18 ⟨rfl, hb⟩; have n0_ := Ad_.mk (Kd.R_below (by (with_reducible repeat (first | apply Kd.R_alloc | apply Kd.R_drewN | apply Kd.R_drew)); exact HO_3.out) hb); have n1_ := Ad_.mk (bP_ (by repeat (with_reducible first | exact HB.out | apply bA_ | apply bN_ | apply b1_)) hb); clear HO_3; clear HB; have HO_3 := n0_; have HB := n1_; clear n0_ n1_; (try clear hb); (try clear hb2); (try clear hk); (try clear hi)))
           go_roundg kj3
           case measure => have := HK1.out; have := HJ3.out; omega
           case rel => exact ⟨(x3_1), (wrap64 (x4_1 + 1)), fs_, H', ⟨by have := HK1.out; have := HJ3.out; omega⟩, ⟨by (with_reducible repeat (first | apply Kd.R_alloc | apply Kd.R_drewN | apply Kd.R_drew)); exact HO_3.out⟩, ⟨by repeat (with_reducible first | exact HB.out | apply bA_ | apply bN_ | apply b1_)⟩⟩
          rw [if_pos c13] at H
          have c13b0 := decide_eq_true c13
          clear c13
          replace H := Option.bind_eq_some_iff.mp H
          obtain ⟨t896, A140, H⟩ := H
          try dsimp only at H
          have A14 := Ad_.mk A140
          clear A140
          have H' := Ad_.mk H
          clear H
          have p892 : 0 ≤ (x4_1 : Int) := od_
          have q892 : x4_1 < (l0.length : Int) := od_
          obtain ⟨ad892, e892, hx892_0, hx892_1, hx892_2, hx892_3, hx892_4, hx892_5, hx892_6⟩ := at_T55 HR0.out x4_1 p892 q892
          cases e892
          replace hx892_0 := pB_ HB.out hx892_0
          replace hx892_1 := pB_ HB.out hx892_1
          replace hx892_2 := pB_ HB.out hx892_2
          replace hx892_3 := pB_ HB.out hx892_3
          replace hx892_4 := pB_ HB.out hx892_4
          replace hx892_5 := pB_ HB.out hx892_5
          replace hx892_6 := pB_ HB.out hx892_6
          replace p892 := eq_true p892
          replace q892 := eq_true q892
          go_wp2_with (first | (go_at_call 83; (with_reducible refine (spec_BinderOf.calls kj3 _ _ l0 x4_1 t893 t894 _ ?side1 ?side2 A12.out).mono ?_); (case side1 => repeat (first | exact (Kd.C_below HR0.out HB.out) | (with_reducible refine Kd.C_alloc ?_ _) | (with_reducible refine Kd.C_drewN ?_ _) | (with_reducible refine Kd.C_drew ?_))); (case side2 => exact HC0.out); rintro e w15 ⟨rfl, hb⟩; have n0_ := Ad_.mk (Kd.R_below (by (with_reducible repeat (first | apply Kd.R_alloc | apply Kd.R_drewN | apply Kd.R_drew)); exact HO_3.out) hb); have n1_ := Ad_.mk (bP_ (by repeat (with_reducible first | exact HB.out | apply bA_ | apply bN_ | apply b1_)) hb); clear HO_3; clear HB; have HO_3 := n0_; have HB := n1_; clear n0_ n1_; (try clear hb); (try clear hb2); (try clear hk); (try clear hi); have p895 : 0 ≤ (x4_1 : Int) := od_; have q895 : x4_1 < (l0.length : Int) := od_; obtain ⟨ad895, e895, hx895_0, hx895_1, hx895_2, hx895_3, hx895_4, hx895_5, hx895_6⟩ := at_T55 HR0.out x4_1 p895 q895; obtain rfl : ad892 = ad895 := (by injection e895); replace hx895_0 := pB_ HB.out hx895_0; replace hx895_1 := pB_ HB.out hx895_1; replace hx895_2 := pB_ HB.out hx895_2; replace hx895_3 := pB_ HB.out hx895_3; replace hx895_4 := pB_ HB.out hx895_4; replace hx895_5 := pB_ HB.out hx895_5; replace hx895_6 := pB_ HB.out hx895_6; replace p895 := eq_true p895; replace q895 := eq_true q895; obtain ⟨Ao16, co16, eo16⟩ := Kd.R_slice HO_3.out; subst eo16) | ((with_reducible refine gC_ (f := 129) rfl ?_); refine gM_ (some 35) rfl rfl Tryd.func129 (by kernel_rfl) rfl #[.slice Ao16 x3_1.length co16, .string ((rd_T55 l0 x4_1).f5)] rfl ?_; (with_reducible refine (spec_l6Sort.calls kj3 (fun k_ => some k_ = (.slice Ao16 x3_1.length co16 : Value).ownBlock) (.slice Ao16 x3_1.length co16) x3_1 ((rd_T55 l0 x4_1).f5) t896 w _ ?side1 ?side2 A14.out).mono ?_); (case side1 => repeat (with_reducible first | exact HB.out | apply bA_ | apply bN_ | apply b1_)); (case side2 => exact Kd.R_tight rfl HO_3.out); rintro e w17 ⟨v897, rfl, ho0, hb, hkp⟩; refine ⟨_, rfl, ?_⟩; have n0_ := Ad_.mk (Kd.R_mono (ok' := fun k_ => True) ho0 (fun k_ hk_ => trivial)); have n1_ := Ad_.mk (hb); clear HB; clear HO_3; have HO898 := n0_; have HB := n1_; clear n0_ n1_; (try clear hb); (try clear hkp); (try clear ho0)))
          go_roundg kj3
          case measure => have := HK1.out; have := HJ3.out; omega
          case rel => exact ⟨(t896), (wrap64 (x4_1 + 1)), fs_, H', ⟨by have := HK1.out; have := HJ3.out; omega⟩, ⟨by (with_reducible repeat (first | apply Kd.R_alloc | apply Kd.R_drewN | apply Kd.R_drew)); exact HO898.out⟩, ⟨by repeat (with_reducible first | exact HB.out | apply bA_ | apply bN_ | apply b1_)⟩⟩
def spec_Closed.f (k : Nat) (l0 : List (S55)) : Option (Bool) := (spec_NodesOk.f k l0).bind fun t899 => (if t899 = true then ((spec_FreeNames.f k l0).bind fun t900 => (some ((t900.length : Int) == 0))) else (some false))
theorem spec_Closed.mono : ∀ a0 k, LeO (spec_Closed.f k a0) (spec_Closed.f (k + 1) a0) := by
  intro a0 k
  unfold spec_Closed.f
  repeat' first
      | (with_reducible exact spec_FreeNames.mono _ _)
      | (with_reducible exact spec_NodesOk.mono _ _)
      | (with_reducible exact LeO.refl _)
      | (with_reducible exact LeO.none _)
      | (with_reducible refine LeO.ite ?_ ?_)
      | (with_reducible refine LeO.bind ?_ (fun _ => ?_))
      | exact LeO.none _
      | refine LeO.ite ?_ ?_
      | refine LeO.bind ?_ (fun _ => ?_)
set_option maxHeartbeats 8000000 in
set_option maxRecDepth 100000 in
theorem spec_Closed.calls (k : Nat) (A0 : Option Addr) (c0 : Nat) (l0 : List (S55)) (r : Bool) (w : World) (hr0 : Kd.C k55 w A0 l0.length l0) (hc0 : l0.length ≤ c0) (h : spec_Closed.f k l0 = some r) :
    Calls Tryd.prog 89 #[.slice A0 l0.length c0] w fun e w' => e = .returned (.bool r) ∧ Below w.heap.size w w' := by
  have HR0 := Ad_.mk hr0
  have HC0 := Ad_.mk hc0
  clear hr0 hc0
  have HB := Ad_.mk (Below.refl w.heap.size w)
  have H := h
  unfold spec_Closed.f at H
  clear h
  replace H := Option.bind_eq_some_iff.mp H
  obtain ⟨t899, A20, H⟩ := H
  try dsimp only at H
  have A2 := Ad_.mk A20
  clear A20
  by_cases c3 : t899 = true
  rotate_left
  ·
   replace c3 := Bool.eq_false_iff.mpr c3
   subst c3
   have H1 : (some false) = some r := by rw [if_neg (show ¬ (false = true) by decide)] at H; exact H
   clear H
   have H := H1
   clear H1
   obtain rfl := Option.some.inj H
   go_enter Tryd.func89, Tryd.ntmps89
   go_wp2_with (first | ((with_reducible refine gC_ (f := 49) rfl ?_); refine gM_ (some 4) rfl rfl Tryd.func49 (by kernel_rfl) rfl #[.slice A0 l0.length c0] rfl ?_; (with_reducible refine (spec_NodesOk.calls k _ _ l0 false _ ?side1 ?side2 A2.out).mono ?_); (case side1 => repeat (first | exact HR0.out | (with_reducible refine Kd.C_alloc ?_ _) | (with_reducible refine Kd.C_drewN ?_ _) | (with_reducible refine Kd.C_drew ?_))); (case side2 => exact HC0.out); rintro e w8 ⟨rfl, hb⟩; refine ⟨_, rfl, ?_⟩; have n0_ := Ad_.mk (bP_ (by repeat (with_reducible first | exact HB.out | apply bA_ | apply bN_ | apply b1_)) hb); clear HB; have HB := n0_; clear n0_; (try clear hb); (try clear hb2); (try clear hk); (try clear hi)))
   go_ret
   exact ⟨by first | rfl | (simp [errW_none, errW_some] <;> rfl) | (simp [*, errW_none, errW_some] <;> rfl), by repeat (with_reducible first | exact HB.out | apply bA_ | apply bN_ | apply b1_)⟩
  subst c3
  have H1 := H
  rw [if_pos rfl] at H1
  clear H
  have H := H1
  clear H1
  replace H := Option.bind_eq_some_iff.mp H
  obtain ⟨t900, A40, H⟩ := H
  replace H : (some ((t900.length : Int) == 0)) = some r := H
  have A4 := Ad_.mk A40
  clear A40
  obtain rfl := Option.some.inj H
  go_enter Tryd.func89, Tryd.ntmps89
  go_wp2_with (first | ((with_reducible refine gC_ (f := 49) rfl ?_); refine gM_ (some 4) rfl rfl Tryd.func49 (by kernel_rfl) rfl #[.slice A0 l0.length c0] rfl ?_; (with_reducible refine (spec_NodesOk.calls k _ _ l0 true _ ?side1 ?side2 A2.out).mono ?_); (case side1 => repeat (first | exact HR0.out | (with_reducible refine Kd.C_alloc ?_ _) | (with_reducible refine Kd.C_drewN ?_ _) | (with_reducible refine Kd.C_drew ?_))); (case side2 => exact HC0.out); rintro e w5 ⟨rfl, hb⟩; refine ⟨_, rfl, ?_⟩; have n0_ := Ad_.mk (bP_ (by repeat (with_reducible first | exact HB.out | apply bA_ | apply bN_ | apply b1_)) hb); clear HB; have HB := n0_; clear n0_; (try clear hb); (try clear hb2); (try clear hk); (try clear hi)) | (go_at_call 112; (with_reducible refine (spec_FreeNames.calls k _ _ l0 t900 _ ?side1 ?side2 A4.out).mono ?_); (case side1 => repeat (first | exact (Kd.C_below HR0.out HB.out) | (with_reducible refine Kd.C_alloc ?_ _) | (with_reducible refine Kd.C_drewN ?_ _) | (with_reducible refine Kd.C_drew ?_))); (case side2 => exact HC0.out); rintro e w6 ⟨v901, rfl, ho0, hb⟩; have n0_ := Ad_.mk (Kd.R_lower ho0 (bZ_ (by repeat (with_reducible first | exact HB.out | apply bA_ | apply bN_ | apply b1_)))); have n1_ := Ad_.mk (bP_ (by repeat (with_reducible first | exact HB.out | apply bA_ | apply bN_ | apply b1_)) hb); clear HB; have HO902 := n0_; have HB := n1_; clear n0_ n1_; (try clear hb); (try clear hb2); (try clear hk); (try clear hi); (try clear ho0); obtain ⟨Ao7, co7, eo7⟩ := Kd.R_slice HO902.out; subst eo7))
  go_ret
  exact ⟨by first | rfl | (simp [errW_none, errW_some] <;> rfl) | (simp [*, errW_none, errW_some] <;> rfl), by repeat (with_reducible first | exact HB.out | apply bA_ | apply bN_ | apply b1_)⟩
end Go.Proofs.YtfmlamheflbgdaaDoor.PAll
end
section
namespace Go.Proofs.YtfmlamheflbgdaaDoor.PAll
open Go.RowKit Go.Proofs.YtfmlamheflbgdaaDoorW.PrintWords Go.Proofs.YtfmlamheflbgdaaDoorW.PrintLast Go.Proofs.YtfmlamheflbgdaaDoorW.PrintMore
attribute [local go_sem] max2_int min2_int max_two min_two max_three min_three max_four min_four
set_option linter.unusedVariables false
set_option linter.unusedSimpArgs false
def spec_FlowOk.f (k : Nat) (l0 : List (S55)) (a1 : Int) : Option (Bool) := (spec_NodesOk.f k l0).bind fun t903 => (if t903 = true then ((spec_Closed.f k l0).bind fun t904 => (if t904 = true then ((spec_l1In.f a1 0 2).bind fun t905 => (some t905)) else (some false))) else (some false))
theorem spec_FlowOk.mono : ∀ a0 a1 k, LeO (spec_FlowOk.f k a0 a1) (spec_FlowOk.f (k + 1) a0 a1) := by
  intro a0 a1 k
  unfold spec_FlowOk.f
  repeat' first
      | (with_reducible exact spec_Closed.mono _ _)
      | (with_reducible exact spec_NodesOk.mono _ _)
      | (with_reducible exact LeO.refl _)
      | (with_reducible exact LeO.none _)
      | (with_reducible refine LeO.ite ?_ ?_)
      | (with_reducible refine LeO.bind ?_ (fun _ => ?_))
      | exact LeO.none _
      | refine LeO.ite ?_ ?_
      | refine LeO.bind ?_ (fun _ => ?_)
set_option maxHeartbeats 8000000 in
set_option maxRecDepth 100000 in
theorem spec_FlowOk.calls (k : Nat) (A0 : Option Addr) (c0 : Nat) (l0 : List (S55)) (a1 : Int) (r : Bool) (w : World) (hr0 : Kd.C k55 w A0 l0.length l0) (hc0 : l0.length ≤ c0) (h : spec_FlowOk.f k l0 a1 = some r) :
    Calls Tryd.prog 44 #[.slice A0 l0.length c0, .int .i64 a1] w fun e w' => e = .returned (.bool r) ∧ Below w.heap.size w w' := by
  have HR0 := Ad_.mk hr0
  have HC0 := Ad_.mk hc0
  clear hr0 hc0
  have HB := Ad_.mk (Below.refl w.heap.size w)
  have H := h
  unfold spec_FlowOk.f at H
  clear h
  replace H := Option.bind_eq_some_iff.mp H
  obtain ⟨t903, A30, H⟩ := H
  try dsimp only at H
  have A3 := Ad_.mk A30
  clear A30
  by_cases c4 : t903 = true
  rotate_left
  ·
   replace c4 := Bool.eq_false_iff.mpr c4
   subst c4
   have H1 : (some false) = some r := by rw [if_neg (show ¬ (false = true) by decide)] at H; exact H
   clear H
   have H := H1
   clear H1
   obtain rfl := Option.some.inj H
   go_enter Tryd.func44, Tryd.ntmps44
   go_wp2_with (first | ((with_reducible refine gC_ (f := 49) rfl ?_); refine gM_ (some 6) rfl rfl Tryd.func49 (by kernel_rfl) rfl #[.slice A0 l0.length c0] rfl ?_; (with_reducible refine (spec_NodesOk.calls k _ _ l0 false _ ?side1 ?side2 A3.out).mono ?_); (case side1 => repeat (first | exact HR0.out | (with_reducible refine Kd.C_alloc ?_ _) | (with_reducible refine Kd.C_drewN ?_ _) | (with_reducible refine Kd.C_drew ?_))); (case side2 => exact HC0.out); rintro e w12 ⟨rfl, hb⟩; refine ⟨_, rfl, ?_⟩; have n0_ := Ad_.mk (bP_ (by repeat (with_reducible first | exact HB.out | apply bA_ | apply bN_ | apply b1_)) hb); clear HB; have HB := n0_; clear n0_; (try clear hb); (try clear hb2); (try clear hk); (try clear hi)))
   go_ret
   exact ⟨by first | rfl | (simp [errW_none, errW_some] <;> rfl) | (simp [*, errW_none, errW_some] <;> rfl), by repeat (with_reducible first | exact HB.out | apply bA_ | apply bN_ | apply b1_)⟩
  subst c4
  have H1 := H
  rw [if_pos rfl] at H1
  clear H
  have H := H1
  clear H1
  replace H := Option.bind_eq_some_iff.mp H
  obtain ⟨t904, A50, H⟩ := H
  try dsimp only at H
  have A5 := Ad_.mk A50
  clear A50
  by_cases c6 : t904 = true
  rotate_left
  ·
   replace c6 := Bool.eq_false_iff.mpr c6
   subst c6
   have H1 : (some false) = some r := by rw [if_neg (show ¬ (false = true) by decide)] at H; exact H
   clear H
   have H := H1
   clear H1
   obtain rfl := Option.some.inj H
   go_enter Tryd.func44, Tryd.ntmps44
   go_wp2_with (first | ((with_reducible refine gC_ (f := 49) rfl ?_); refine gM_ (some 6) rfl rfl Tryd.func49 (by kernel_rfl) rfl #[.slice A0 l0.length c0] rfl ?_; (with_reducible refine (spec_NodesOk.calls k _ _ l0 true _ ?side1 ?side2 A3.out).mono ?_); (case side1 => repeat (first | exact HR0.out | (with_reducible refine Kd.C_alloc ?_ _) | (with_reducible refine Kd.C_drewN ?_ _) | (with_reducible refine Kd.C_drew ?_))); (case side2 => exact HC0.out); rintro e w10 ⟨rfl, hb⟩; refine ⟨_, rfl, ?_⟩; have n0_ := Ad_.mk (bP_ (by repeat (with_reducible first | exact HB.out | apply bA_ | apply bN_ | apply b1_)) hb); clear HB; have HB := n0_; clear n0_; (try clear hb); (try clear hb2); (try clear hk); (try clear hi)) | (go_at_call 89; (with_reducible refine (spec_Closed.calls k _ _ l0 false _ ?side1 ?side2 A5.out).mono ?_); (case side1 => repeat (first | exact (Kd.C_below HR0.out HB.out) | (with_reducible refine Kd.C_alloc ?_ _) | (with_reducible refine Kd.C_drewN ?_ _) | (with_reducible refine Kd.C_drew ?_))); (case side2 => exact HC0.out); rintro e w11 ⟨rfl, hb⟩; have n0_ := Ad_.mk (bP_ (by repeat (with_reducible first | exact HB.out | apply bA_ | apply bN_ | apply b1_)) hb); clear HB; have HB := n0_; clear n0_; (try clear hb); (try clear hb2); (try clear hk); (try clear hi)))
   go_ret
   exact ⟨by first | rfl | (simp [errW_none, errW_some] <;> rfl) | (simp [*, errW_none, errW_some] <;> rfl), by repeat (with_reducible first | exact HB.out | apply bA_ | apply bN_ | apply b1_)⟩
  subst c6
  have H1 := H
  rw [if_pos rfl] at H1
  clear H
  have H := H1
  clear H1
  replace H := Option.bind_eq_some_iff.mp H
  obtain ⟨t905, A70, H⟩ := H
  replace H : (some t905) = some r := H
  have A7 := Ad_.mk A70
  clear A70
  obtain rfl := Option.some.inj H
  go_enter Tryd.func44, Tryd.ntmps44
  go_wp2_with (first | ((with_reducible refine gC_ (f := 49) rfl ?_); refine gM_ (some 6) rfl rfl Tryd.func49 (by kernel_rfl) rfl #[.slice A0 l0.length c0] rfl ?_; (with_reducible refine (spec_NodesOk.calls k _ _ l0 true _ ?side1 ?side2 A3.out).mono ?_); (case side1 => repeat (first | exact HR0.out | (with_reducible refine Kd.C_alloc ?_ _) | (with_reducible refine Kd.C_drewN ?_ _) | (with_reducible refine Kd.C_drew ?_))); (case side2 => exact HC0.out); rintro e w8 ⟨rfl, hb⟩; refine ⟨_, rfl, ?_⟩; have n0_ := Ad_.mk (bP_ (by repeat (with_reducible first | exact HB.out | apply bA_ | apply bN_ | apply b1_)) hb); clear HB; have HB := n0_; clear n0_; (try clear hb); (try clear hb2); (try clear hk); (try clear hi)) | (go_at_call 89; (with_reducible refine (spec_Closed.calls k _ _ l0 true _ ?side1 ?side2 A5.out).mono ?_); (case side1 => repeat (first | exact (Kd.C_below HR0.out HB.out) | (with_reducible refine Kd.C_alloc ?_ _) | (with_reducible refine Kd.C_drewN ?_ _) | (with_reducible refine Kd.C_drew ?_))); (case side2 => exact HC0.out); rintro e w9 ⟨rfl, hb⟩; have n0_ := Ad_.mk (bP_ (by repeat (with_reducible first | exact HB.out | apply bA_ | apply bN_ | apply b1_)) hb); clear HB; have HB := n0_; clear n0_; (try clear hb); (try clear hb2); (try clear hk); (try clear hi)) | (go_at_call 68; (with_reducible refine (spec_l1In.calls a1 0 2 t905 _ A7.out).mono ?_); rintro e w' ⟨rfl, ⟨nd, rfl⟩⟩))
  go_ret
  exact ⟨by first | rfl | (simp [errW_none, errW_some] <;> rfl) | (simp [*, errW_none, errW_some] <;> rfl), by repeat (with_reducible first | exact HB.out | apply bA_ | apply bN_ | apply b1_)⟩
end Go.Proofs.YtfmlamheflbgdaaDoor.PAll
end
section
namespace Go.Proofs
open Go.Shelf
def Tryd.lays192_ren : Go.Shelf.Ren := ⟨fun | 192 => 146 | 190 => 159 | 125 => 178 | 258 => 177 | 128 => 197 | 129 => 198 | 302 => 188 | 303 => 189 | 304 => 190 | 305 => 191 | 306 => 192 | 307 => 193 | 308 => 194 | 309 => 195 | 310 => 196 | 333 => 208 | 329 => 209 | 330 => 210 | 334 => 211 | 335 => 212 | 336 => 213 | 344 => 218 | n => n, fun | 31 => 104 | 0 => 0 | 9 => 9 | 3 => 3 | 46 => 141 | 51 => 194 | 53 => 176 | 4 => 4 | 183 => 187 | 182 => 186 | 131 => 165 | 5 => 5 | 218 => 199 | 222 => 203 | 228 => 211 | 229 => 107 | n => n, fun | n => n⟩
theorem Tryd.lays192 : Go.Proofs.Lays.n192 Tryd.prog Tryd.lays192_ren := {
  mixed := by kernel_rfl
  f125 := Tryd.func178.trans (congrArg some (by kernel_rfl))
  f128 := Tryd.func197.trans (congrArg some (by kernel_rfl))
  f129 := Tryd.func198.trans (congrArg some (by kernel_rfl))
  f190 := Tryd.func159.trans (congrArg some (by kernel_rfl))
  f192 := Tryd.func146.trans (congrArg some (by kernel_rfl))
  f258 := Tryd.func177.trans (congrArg some (by kernel_rfl))
  f302 := Tryd.func188.trans (congrArg some (by kernel_rfl))
  f303 := Tryd.func189.trans (congrArg some (by kernel_rfl))
  f304 := Tryd.func190.trans (congrArg some (by kernel_rfl))
  f305 := Tryd.func191.trans (congrArg some (by kernel_rfl))
  f306 := Tryd.func192.trans (congrArg some (by kernel_rfl))
  f307 := Tryd.func193.trans (congrArg some (by kernel_rfl))
  f308 := Tryd.func194.trans (congrArg some (by kernel_rfl))
  f309 := Tryd.func195.trans (congrArg some (by kernel_rfl))
  f310 := Tryd.func196.trans (congrArg some (by kernel_rfl))
  f329 := Tryd.func209.trans (congrArg some (by kernel_rfl))
  f330 := Tryd.func210.trans (congrArg some (by kernel_rfl))
  f333 := Tryd.func208.trans (congrArg some (by kernel_rfl))
  f334 := Tryd.func211.trans (congrArg some (by kernel_rfl))
  f335 := Tryd.func212.trans (congrArg some (by kernel_rfl))
  f336 := Tryd.func213.trans (congrArg some (by kernel_rfl))
  f344 := Tryd.func218.trans (congrArg some (by kernel_rfl))
  t0 := Tryd.underlying0
  a0 := Tryd.isAgg0
  z0 := Tryd.sizeOf0
  v0 := Tryd.zeroValue0
  t3 := Tryd.underlying3
  a3 := Tryd.isAgg3
  z3 := Tryd.sizeOf3
  v3 := Tryd.zeroValue3
  t4 := Tryd.underlying4
  a4 := Tryd.isAgg4
  z4 := Tryd.sizeOf4
  v4 := Tryd.zeroValue4
  t5 := Tryd.underlying5
  a5 := Tryd.isAgg5
  z5 := Tryd.sizeOf5
  v5 := Tryd.zeroValue5
  t9 := Tryd.underlying9
  a9 := Tryd.isAgg9
  z9 := Tryd.sizeOf9
  v9 := Tryd.zeroValue9
  t31 := Tryd.underlying104
  a31 := Tryd.isAgg104
  z31 := Tryd.sizeOf104
  v31 := Tryd.zeroValue104
  t46 := Tryd.underlying141
  a46 := Tryd.isAgg141
  z46 := Tryd.sizeOf141
  v46 := Tryd.zeroValue141
  t51 := Tryd.underlying194
  a51 := Tryd.isAgg194
  z51 := Tryd.sizeOf194
  v51 := Tryd.zeroValue194
  t53 := Tryd.underlying176
  a53 := Tryd.isAgg176
  z53 := Tryd.sizeOf176
  v53 := Tryd.zeroValue176
  t131 := Tryd.underlying165
  a131 := Tryd.isAgg165
  z131 := Tryd.sizeOf165
  v131 := Tryd.zeroValue165
  t182 := Tryd.underlying186
  a182 := Tryd.isAgg186
  z182 := Tryd.sizeOf186
  v182 := Tryd.zeroValue186
  t183 := Tryd.underlying187
  a183 := Tryd.isAgg187
  z183 := Tryd.sizeOf187
  v183 := Tryd.zeroValue187
  t218 := Tryd.underlying199
  a218 := Tryd.isAgg199
  z218 := Tryd.sizeOf199
  v218 := Tryd.zeroValue199
  t222 := Tryd.underlying203
  a222 := Tryd.isAgg203
  z222 := Tryd.sizeOf203
  v222 := Tryd.zeroValue203
  t228 := Tryd.underlying211
  a228 := Tryd.isAgg211
  z228 := Tryd.sizeOf211
  v228 := Tryd.zeroValue211
  t229 := Tryd.underlying107
  a229 := Tryd.isAgg107
  z229 := Tryd.sizeOf107
  v229 := Tryd.zeroValue107 }
end Go.Proofs
end
section
namespace Go.Proofs.YtfmlamheflbgdaaDoor.PAll
open Go.RowKit Go.Proofs.YtfmlamheflbgdaaDoorW.PrintWords Go.Proofs.YtfmlamheflbgdaaDoorW.PrintLast Go.Shelf Go.Sort
def sortS (l : List ByteArray) : List ByteArray := ((l.map fun s => s.data.toList).mergeSort fun x y => decide (x ≤ y)).map fun x => (⟨x.toArray⟩ : ByteArray)
theorem sortS_len (l : List ByteArray) : (sortS l).length = l.length := by simp [sortS, List.length_mergeSort]
def sort_Strings.f (a0 : List ByteArray) : Option (List ByteArray) := if a0.length < 4611686018427387904 then some (sortS a0) else none
theorem enc_back (s : ByteArray) : encStr s.data.toList = Value.string s := rfl
theorem put_block (w : World) (n : Nat) (g : Nat) (d : Array (List UInt8)) (os : Array Obj) {cur : Array Value} {e : TypeId} {fr : Nat × Nat} (hg : w.heap[g]? = some (.cells cur e fr)) :
    (grow (putRow encStr (Sort.ahead w n) g 0 d) os).heap[g]? = some (.cells (putCells encStr 0 d cur) e fr) := by
  have hlt : g < w.heap.size := (Array.getElem?_eq_some_iff.1 hg).1
  unfold grow putRow mapBlock Sort.ahead
  simp only
  rw [Array.getElem?_append_left (by simpa using hlt), Array.getElem?_modify, if_pos rfl, hg]
  rfl
theorem put_other (w : World) (n : Nat) (g : Nat) (d : Array (List UInt8)) (os : Array Obj) (k : Nat) (hk : k < w.heap.size) (hne : k ≠ g) :
    (grow (putRow encStr (Sort.ahead w n) g 0 d) os).heap[k]? = w.heap[k]? := by
  unfold grow putRow mapBlock Sort.ahead
  simp only
  rw [Array.getElem?_append_left (by simpa using hk), Array.getElem?_modify, if_neg (fun e => hne e.symm)]
theorem put_size (w : World) (n : Nat) (g : Nat) (d : Array (List UInt8)) (os : Array Obj) : w.heap.size ≤ (grow (putRow encStr (Sort.ahead w n) g 0 d) os).heap.size := by
  unfold grow putRow mapBlock Sort.ahead
  simp
theorem put_take (d : Array (List UInt8)) (cur : Array Value) (h : d.size ≤ cur.size) : (putCells encStr 0 d cur).toList.take d.size = d.toList.map encStr := by
  apply List.ext_getElem?
  intro j
  by_cases hj : j < d.size
  · have hj' : j < cur.size := by omega
    simp [putCells, hj, hj']
  · simp [List.getElem?_take, hj]
theorem sort_Strings.calls (P0_ : Nat → Prop) (u9000_ : Value) (l0 : List ByteArray) (r1 : List ByteArray) (w0 w : World) (hB : Below w0.heap.size w0 w) (ho0 : Kd.R Kd.string 9 w w0.heap.size P0_ u9000_ l0) (h : sort_Strings.f l0 = some r1) :
    Calls Tryd.prog 146 #[u9000_] w fun e w' => e = .returned (.tuple #[]) ∧ Kd.R Kd.string 9 w' w0.heap.size (fun k_ => (P0_ k_ ∨ w.heap.size ≤ k_)) u9000_ r1 ∧ Below w0.heap.size w0 w' ∧ Kept w w' (fun k_ => P0_ k_) := by
  unfold sort_Strings.f at h
  split at h
  ·
   rename_i hc
   obtain rfl := Option.some.inj h
   have hown := Kd.own_of_R ho0
   have hP := ho0.1
   obtain ⟨hlen, hown2⟩ := hown
   rcases hown2 with ⟨rfl, h0⟩ | ⟨g, cap, cur, rfl, hbg, hg, hnc, hcm, hcs, htake⟩
   ·
    have hl : l0 = [] := List.eq_nil_of_length_eq_zero h0
    subst hl
    refine (Any.sort_Strings_none Tryd.lays192 none 0 w).mono ?_
    rintro e w' ⟨rfl, rfl⟩
    have e0 : sortS [] = [] := by simp [sortS]
    rw [e0]
    exact ⟨rfl, Kd.R_nil _ _ _ _ _, hB, Kept.refl _ _⟩
   have hlt : g < w.heap.size := (Array.getElem?_eq_some_iff.1 hg).1
   have hsz : (l0.map fun s => s.data.toList).length = l0.length := List.length_map _
   have hcur : l0.length ≤ cur.size := by rw [hcs]; omega
   have hH : Holds encStr w g 0 (l0.map fun s => s.data.toList).toArray := by
     intro j hj
     have hj' : j < l0.length := by simpa using hj
     have hx : cur.toList[j]? = some (Value.string l0[j]) := by
       have e : (cur.toList.take (l0.length * 1))[j]? = cur.toList[j]? := by rw [List.getElem?_take, if_pos (by omega)]
       rw [← e, htake]
       simp [encs, hj']
     have hx' : cur[j]? = some (Value.string l0[j]) := by simpa using hx
     refine ⟨?_, ?_⟩
     ·
      simp only [World.cell?, hg, Nat.zero_add]
      rw [hx']
      simp [hj']
     simp [World.frozen?, hg]
   have c := Any.sort_Strings Tryd.lays192 g 0 cap (l0.map fun s => s.data.toList) w hH hlt (by rw [hsz]; exact hc)
   rw [hsz] at c
   refine c.mono ?_
   rintro e w' ⟨rfl, n, os, rfl⟩
   have hd : ((l0.map fun s => s.data.toList).mergeSort fun x y => decide (x ≤ y)).toArray.size = l0.length := by simp [List.length_mergeSort]
   refine ⟨rfl, ?_, ?_, ?_⟩
   ·
    refine Kd.R_of_own ?_ (fun k hk => .inl (hP k hk))
    refine ⟨by simp [encs], .inr ⟨g, cap, _, by rw [sortS_len], hbg, put_block w n g _ os hg, by rw [sortS_len]; exact hnc, hcm, by simp [putCells, hcs], ?_⟩⟩
    rw [sortS_len, Nat.mul_one]
    have := put_take ((l0.map fun s => s.data.toList).mergeSort fun x y => decide (x ≤ y)).toArray cur (by rw [hd]; exact hcur)
    rw [hd] at this
    rw [this]
    simp [encs, sortS]
   ·
    refine hB.trans ⟨rfl, rfl, rfl, put_size w n g _ os, fun k hk => ?_⟩
    exact put_other w n g _ os k (Nat.lt_of_lt_of_le hk hB.size) (by omega)
   exact ⟨put_size w n g _ os, fun k hk hne => put_other w n g _ os k hk (fun e => hne (by rw [e]; exact hP g rfl))⟩
  cases h
end Go.Proofs.YtfmlamheflbgdaaDoor.PAll
end
