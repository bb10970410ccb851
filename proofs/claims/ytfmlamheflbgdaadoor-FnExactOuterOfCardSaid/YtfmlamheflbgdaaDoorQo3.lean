/- For each function of the Go program that is named here: its Lean function, and that Go comes to just its answer. Written by a program of the session out of the translation. -/
import Derived.Test.YtfmlamheflbgdaaDoorQo0
import Derived.Test.YtfmlamheflbgdaaDoorQo2
import Derived.Test.YtfmlamheflbgdaaDoorQo1
section
namespace Go.Proofs.YtfmlamheflbgdaaDoor.PAll
open Go.RowKit Go.Proofs.YtfmlamheflbgdaaDoorW.PrintWords Go.Proofs.YtfmlamheflbgdaaDoorW.PrintLast Go.Proofs.YtfmlamheflbgdaaDoorW.PrintMore
attribute [local go_sem] max2_int min2_int max_two min_two max_three min_three max_four min_four
set_option linter.unusedVariables false
set_option linter.unusedSimpArgs false
def spec_l6Bound.j0 : Nat → Int → Int → Bool → Int → Int → Int → Int → Int → ByteArray → ByteArray → Option (List ByteArray × List Int)
  | 0, _, _, _, _, _, _, _, _, _, _ => none
  | k + 1, x1, x7, x14, x687000, x687001, x687002, x687003, x687004, x687005, x687006 => if x14 = true then (if x1 = x687002 then (some ((([x687005] : List ByteArray)), (([0] : List Int)))) else (some ((([] : List ByteArray)), (([] : List Int))))) else (if x7 = 6 then (if x1 = x687001 then (some ((([x687006, x687005] : List ByteArray)), (([1, 0] : List Int)))) else (some ((([x687005] : List ByteArray)), (([0] : List Int))))) else (if x7 = 14 then (if x1 = x687003 then (some ((([x687006, x687005] : List ByteArray)), (([1, 0] : List Int)))) else (some ((([] : List ByteArray)), (([] : List Int))))) else (some ((([] : List ByteArray)), (([] : List Int))))))
def spec_l6Bound.f (k : Nat) (a0_0 : Int) (a0_1 : Int) (a0_2 : Int) (a0_3 : Int) (a0_4 : Int) (a0_5 : ByteArray) (a0_6 : ByteArray) (a1 : Int) : Option (List ByteArray × List Int) := if a0_0 = 3 then (some ((([a0_5] : List ByteArray)), (([0] : List Int)))) else (if a0_0 = 5 then (spec_l6Bound.j0 k a1 a0_0 (a0_0 == 5) a0_0 a0_1 a0_2 a0_3 a0_4 a0_5 a0_6) else (spec_l6Bound.j0 k a1 a0_0 (a0_0 == 19) a0_0 a0_1 a0_2 a0_3 a0_4 a0_5 a0_6))
set_option maxHeartbeats 8000000 in
set_option maxRecDepth 100000 in
theorem spec_l6Bound.calls (k : Nat) (a0_0 : Int) (a0_1 : Int) (a0_2 : Int) (a0_3 : Int) (a0_4 : Int) (a0_5 : ByteArray) (a0_6 : ByteArray) (a1 : Int) (r1 : List ByteArray) (r2 : List Int) (w : World) (h : spec_l6Bound.f k a0_0 a0_1 a0_2 a0_3 a0_4 a0_5 a0_6 a1 = some (r1, r2)) :
    Calls Tryd.prog 108 #[.agg #[.int .i64 a0_0, .int .i64 a0_1, .int .i64 a0_2, .int .i64 a0_3, .int .i64 a0_4, .string a0_5, .string a0_6], .int .i64 a1] w fun e w' => ∃ v0_ v1_ : Value, e = .returned (.tuple #[v0_, v1_]) ∧ Kd.R Kd.string 9 w' w.heap.size (fun _ => True) v0_ r1 ∧ Kd.R (Kd.int .i64) 3 w' w.heap.size (fun _ => True) v1_ r2 ∧ Below w.heap.size w w' := by
  have hu55 := Tryd.underlying55
  have HB := Ad_.mk (Below.refl w.heap.size w)
  have H := h
  unfold spec_l6Bound.f at H
  clear h
  by_cases c3 : a0_0 = 3
  ·
   rw [if_pos c3] at H
   have c3b0 : (a0_0 == 3) = true := beq_iff_eq.mpr c3
   have c3b1 : (a0_0 != 3) = false := bne_eq_false_iff_eq.mpr c3
   clear c3
   obtain ⟨y687, hy687⟩ : ∃ y_ : List ByteArray, y_ = (([a0_5] : List ByteArray)) := ⟨_, rfl⟩
   replace H : (some (y687, (([0] : List Int)))) = some (r1, r2) := by first | (rw [hy687]; with_reducible exact H) | (have H2_ := (Option.bind_some _ _).symm.trans H; rw [hy687]; with_reducible exact H2_) | (have H2_ := (Option.bind_some _ _).symm.trans H; with_reducible exact H2_) | with_reducible exact H | (rw [hy687]; exact H) | exact H
   have Ny687 := Ad_.mk hy687
   clear hy687
   obtain ⟨y690, hy690⟩ : ∃ y_ : List Int, y_ = (([0] : List Int)) := ⟨_, rfl⟩
   replace H : (some (y687, y690)) = some (r1, r2) := by first | (rw [hy690]; with_reducible exact H) | (have H2_ := (Option.bind_some _ _).symm.trans H; rw [hy690]; with_reducible exact H2_) | (have H2_ := (Option.bind_some _ _).symm.trans H; with_reducible exact H2_) | with_reducible exact H | (rw [hy690]; exact H) | exact H
   have Ny690 := Ad_.mk hy690
   clear hy690
   simp only [Option.some.injEq, Prod.mk.injEq] at H
   obtain ⟨rfl, rfl⟩ := H
   go_enter Tryd.func108, Tryd.ntmps108
   go_wp2_with (first | ((with_reducible refine gD_ (N := 2) rfl ?_); refine bE_ ?hg (N := 2) ?hd (cs := #[.int .i64 a0_0, .int .i64 a0_1, .int .i64 a0_2, .int .i64 a0_3, .int .i64 a0_4, .string a0_5, .string a0_6]) (t := 55) ?hr ?_; (case hd => rfl); (case hg => rfl); (case hr => first | (go_simp; done) | (go_simp; rfl)); intro gb686 hg w4 hbox hb; have n0_ := Ad_.mk (bQ_ HB.out hb); have n1_ := Ad_.mk (hbox); have n2_ := Ad_.mk ((by rw [hg]; exact (bZ_ (Bn_ HB.out)) : w.heap.size ≤ gb686)); have n3_ := Ad_.mk ((by rw [hg]; exact (bZ_ (Bn_ HB.out)) : w.heap.size ≤ gb686)); clear HB; have HB := n0_; have BK686 := n1_; have GW686 := n2_; have GE686 := n3_; clear n0_ n1_ n2_ n3_; clear hb hbox hg; obtain ⟨hcz5_0, hcz5_1, hcz5_2, hcz5_3, hcz5_4, hcz5_5, hcz5_6⟩ := cells7_ BK686.out; obtain ⟨hfz5_0, hfz5_1, hfz5_2, hfz5_3, hfz5_4, hfz5_5, hfz5_6⟩ := froz7_ BK686.out) | ((with_reducible refine gD_ (N := 12) rfl ?_); refine Kd.R_lit Kd.string _ 9 ?hg (N := 12) ?hd (xs := ([a0_5] : List ByteArray)) (inner := [.string a0_5]) (ok := fun _ => True) (okp := fun _ => True) ?hr ?hp (fun _ hk => hk) trivial (Below.refl _ _) (Nat.le_refl _) (by simp) ?_; (case hd => rfl); (case hg => rfl); (case hr => first | (go_simp; done) | (go_simp; rfl)); (case hp => exact (Reps.one (show Kd.M Kd.string _ _ _ a0_5 [.string a0_5] from rfl) (Reps.none _ _))); intro v688 w6 ho7 hb hg_ hnew_; clear hg_ hnew_; (first | rw [← Ny687.out] at ho7 | (simp only [Int.reduceToNat] at ho7; rw [← Ny687.out] at ho7)); have n0_ := Ad_.mk (Kd.R_lower ho7 (bZ_ (Bo_ HB.out GE686.out))); have n1_ := Ad_.mk (blk_below (g := gb686) (o := .cells #[.int .i64 a0_0, .int .i64 a0_1, .int .i64 a0_2, .int .i64 a0_3, .int .i64 a0_4, .string a0_5, .string a0_6] 55 (0, 0)) (Ko_ BK686.out) hb); have n2_ := Ad_.mk (bP_ (Bo_ HB.out GE686.out) hb); clear BK686; clear HB; have HO689 := n0_; have BK686 := n1_; have HB := n2_; clear n0_ n1_ n2_; clear hb ho7) | ((with_reducible refine gD_ (N := 13) rfl ?_); refine Kd.R_lit (Kd.int .i64) _ 3 ?hg (N := 13) ?hd (xs := ([0] : List Int)) (inner := [.int .i64 0]) (ok := fun _ => True) (okp := fun _ => True) ?hr ?hp (fun _ hk => hk) trivial (Below.refl _ _) (Nat.le_refl _) (by simp) ?_; (case hd => rfl); (case hg => rfl); (case hr => first | (go_simp; done) | (go_simp; rfl)); (case hp => exact (Reps.one (show Kd.M (Kd.int .i64) _ _ _ 0 [.int .i64 0] from rfl) (Reps.none _ _))); intro v691 w8 ho9 hb hg_ hnew_; clear hg_ hnew_; (first | rw [← Ny690.out] at ho9 | (simp only [Int.reduceToNat] at ho9; rw [← Ny690.out] at ho9)); have n0_ := Ad_.mk (Rb_ HO689.out hb); have n1_ := Ad_.mk (Kd.R_lower ho9 (bZ_ (Bo_ HB.out GE686.out))); have n2_ := Ad_.mk (blk_below (g := gb686) (o := .cells #[.int .i64 a0_0, .int .i64 a0_1, .int .i64 a0_2, .int .i64 a0_3, .int .i64 a0_4, .string a0_5, .string a0_6] 55 (0, 0)) (Ko_ BK686.out) hb); have n3_ := Ad_.mk (bP_ (Bo_ HB.out GE686.out) hb); clear HO689; clear BK686; clear HB; have HO689 := n0_; have HO692 := n1_; have BK686 := n2_; have HB := n3_; clear n0_ n1_ n2_ n3_; clear hb ho9))
   go_ret2
   exact ⟨_, _, er_, by (with_reducible repeat (first | apply Kd.R_alloc | apply Kd.R_drewN | apply Kd.R_drew)); exact HO689.out, by (with_reducible repeat (first | apply Kd.R_alloc | apply Kd.R_drewN | apply Kd.R_drew)); exact HO692.out, Bo_ HB.out GE686.out⟩
  rw [if_neg c3] at H
  have c3b0 : (a0_0 == 3) = false := beq_eq_false_iff_ne.mpr c3
  have c3b1 : (a0_0 != 3) = true := bne_iff_ne.mpr c3
  have HC10 := Ad_.mk H
  clear H
  go_enter Tryd.func108, Tryd.ntmps108
  go_upto_if 14 with (first | ((with_reducible refine gD_ (N := 2) rfl ?_); refine bE_ ?hg (N := 2) ?hd (cs := #[.int .i64 a0_0, .int .i64 a0_1, .int .i64 a0_2, .int .i64 a0_3, .int .i64 a0_4, .string a0_5, .string a0_6]) (t := 55) ?hr ?_; (case hd => rfl); (case hg => rfl); (case hr => first | (go_simp; done) | (go_simp; rfl)); intro gb686 hg w11 hbox hb; have n0_ := Ad_.mk (bQ_ HB.out hb); have n1_ := Ad_.mk (hbox); have n2_ := Ad_.mk ((by rw [hg]; exact (bZ_ (Bn_ HB.out)) : w.heap.size ≤ gb686)); have n3_ := Ad_.mk ((by rw [hg]; exact (bZ_ (Bn_ HB.out)) : w.heap.size ≤ gb686)); clear HB; have HB := n0_; have BK686 := n1_; have GW686 := n2_; have GE686 := n3_; clear n0_ n1_ n2_ n3_; clear hb hbox hg; obtain ⟨hcz12_0, hcz12_1, hcz12_2, hcz12_3, hcz12_4, hcz12_5, hcz12_6⟩ := cells7_ BK686.out; obtain ⟨hfz12_0, hfz12_1, hfz12_2, hfz12_3, hfz12_4, hfz12_5, hfz12_6⟩ := froz7_ BK686.out))
  (try simp only [Act.put, List.setIfInBounds_toArray, List.set_cons_zero, List.set_cons_succ])
  go_cut [14] (fun v14 wc => ∃ (kq : Nat) (x14_9 : Bool), v14 = .bool x14_9 ∧ Ad_ (spec_l6Bound.j0 kq a1 a0_0 x14_9 a0_0 a0_1 a0_2 a0_3 a0_4 a0_5 a0_6 = some (r1, r2)) ∧ Ad_ (kq ≤ k) ∧ Ad_ (wc.heap[gb686]? = some (.cells #[.int .i64 a0_0, .int .i64 a0_1, .int .i64 a0_2, .int .i64 a0_3, .int .i64 a0_4, .string a0_5, .string a0_6] 55 (0, 0))) ∧ Ad_ (Below w.heap.size w wc))
  case first =>
    have H := HC10.out
    clear HC10
    by_cases c13 : a0_0 = 5
    rotate_left
    ·
     rw [if_neg c13] at H
     have c13b0 : (a0_0 == 5) = false := beq_eq_false_iff_ne.mpr c13
     have c13b1 : (a0_0 != 5) = true := bne_iff_ne.mpr c13
     (first | rw [c13b0] | (simp only [i64_w, i32_w]; rw [c13b0]) | skip)
     have H' := Ad_.mk H
     clear H
     go_wp2
     go_meet
     case rel => exact ⟨_, ((a0_0 == 19)), fs_, H', ⟨by first | omega | exact Nat.le_refl _⟩, ⟨Ko_ BK686.out⟩, ⟨Bo_ HB.out GE686.out⟩⟩
    rw [if_pos c13] at H
    have c13b0 : (a0_0 == 5) = true := beq_iff_eq.mpr c13
    have c13b1 : (a0_0 != 5) = false := bne_eq_false_iff_eq.mpr c13
    clear c13
    (first | rw [c13b0] | (simp only [i64_w, i32_w]; rw [c13b0]) | skip)
    have H' := Ad_.mk H
    clear H
    go_wp2
    go_meet
    case rel => exact ⟨_, ((a0_0 == 5)), fs_, H', ⟨by first | omega | exact Nat.le_refl _⟩, ⟨Ko_ BK686.out⟩, ⟨Bo_ HB.out GE686.out⟩⟩
  case rest =>
    clear HC10
    try clear p2
    try clear c3b0 c3b1
    try clear c13b0 c13b1
    try clear hcz12_0 hcz12_1 hcz12_2 hcz12_3 hcz12_4 hcz12_5 hcz12_6
    try clear hcz5_0 hcz5_1 hcz5_2 hcz5_3 hcz5_4 hcz5_5 hcz5_6
    try clear hfz12_0 hfz12_1 hfz12_2 hfz12_3 hfz12_4 hfz12_5 hfz12_6
    try clear hfz5_0 hfz5_1 hfz5_2 hfz5_3 hfz5_4 hfz5_5 hfz5_6
    obtain ⟨kq, x14_9, rfl, HA, HJ9, BK686, HB⟩ := hcut
    cases kq with
    | zero => exact absurd HA.out (by simp [spec_l6Bound.j0])
    | succ kj9 =>
      have H := HA.out
      clear HA
      simp only [spec_l6Bound.j0] at H
      by_cases c14 : x14_9 = true
      ·
       subst c14
       have H1 := H
       rw [if_pos rfl] at H1
       clear H
       have H := H1
       clear H1
       by_cases c15 : a1 = a0_2
       rotate_left
       ·
        rw [if_neg c15] at H
        have c15b0 : (a1 == a0_2) = false := beq_eq_false_iff_ne.mpr c15
        have c15b1 : (a1 != a0_2) = true := bne_iff_ne.mpr c15
        obtain ⟨y699, hy699⟩ : ∃ y_ : List ByteArray, y_ = (([] : List ByteArray)) := ⟨_, rfl⟩
        replace H : (some (y699, (([] : List Int)))) = some (r1, r2) := by first | (rw [hy699]; with_reducible exact H) | (have H2_ := (Option.bind_some _ _).symm.trans H; rw [hy699]; with_reducible exact H2_) | (have H2_ := (Option.bind_some _ _).symm.trans H; with_reducible exact H2_) | with_reducible exact H | (rw [hy699]; exact H) | exact H
        have Ny699 := Ad_.mk hy699
        clear hy699
        obtain ⟨y702, hy702⟩ : ∃ y_ : List Int, y_ = (([] : List Int)) := ⟨_, rfl⟩
        replace H : (some (y699, y702)) = some (r1, r2) := by first | (rw [hy702]; with_reducible exact H) | (have H2_ := (Option.bind_some _ _).symm.trans H; rw [hy702]; with_reducible exact H2_) | (have H2_ := (Option.bind_some _ _).symm.trans H; with_reducible exact H2_) | with_reducible exact H | (rw [hy702]; exact H) | exact H
        have Ny702 := Ad_.mk hy702
        clear hy702
        simp only [Option.some.injEq, Prod.mk.injEq] at H
        obtain ⟨rfl, rfl⟩ := H
        obtain ⟨hcz21_0, hcz21_1, hcz21_2, hcz21_3, hcz21_4, hcz21_5, hcz21_6⟩ := cells7_ BK686.out
        obtain ⟨hfz21_0, hfz21_1, hfz21_2, hfz21_3, hfz21_4, hfz21_5, hfz21_6⟩ := froz7_ BK686.out
        go_wp2_with (first | ((with_reducible refine gD_ (N := 53) rfl ?_); refine Kd.R_lit Kd.string _ 9 ?hg (N := 53) ?hd (xs := ([] : List ByteArray)) (inner := []) (ok := fun _ => True) (okp := fun _ => True) ?hr ?hp (fun _ hk => hk) trivial (Below.refl _ _) (Nat.le_refl _) (by simp) ?_; (case hd => rfl); (case hg => rfl); (case hr => first | (go_simp; done) | (go_simp; rfl)); (case hp => exact (Reps.none _ _)); intro v700 w22 ho23 hb hg_ hnew_; clear hg_ hnew_; (first | rw [← Ny699.out] at ho23 | (simp only [Int.reduceToNat] at ho23; rw [← Ny699.out] at ho23)); have n0_ := Ad_.mk (Kd.R_lower ho23 (bZ_ (Bo_ HB.out GE686.out))); have n1_ := Ad_.mk (blk_below (g := gb686) (o := .cells #[.int .i64 a0_0, .int .i64 a0_1, .int .i64 a0_2, .int .i64 a0_3, .int .i64 a0_4, .string a0_5, .string a0_6] 55 (0, 0)) (Ko_ BK686.out) hb); have n2_ := Ad_.mk (bP_ (Bo_ HB.out GE686.out) hb); clear BK686; clear HB; have HO701 := n0_; have BK686 := n1_; have HB := n2_; clear n0_ n1_ n2_; clear hb ho23) | ((with_reducible refine gD_ (N := 54) rfl ?_); refine Kd.R_lit (Kd.int .i64) _ 3 ?hg (N := 54) ?hd (xs := ([] : List Int)) (inner := []) (ok := fun _ => True) (okp := fun _ => True) ?hr ?hp (fun _ hk => hk) trivial (Below.refl _ _) (Nat.le_refl _) (by simp) ?_; (case hd => rfl); (case hg => rfl); (case hr => first | (go_simp; done) | (go_simp; rfl)); (case hp => exact (Reps.none _ _)); intro v703 w24 ho25 hb hg_ hnew_; clear hg_ hnew_; (first | rw [← Ny702.out] at ho25 | (simp only [Int.reduceToNat] at ho25; rw [← Ny702.out] at ho25)); have n0_ := Ad_.mk (Rb_ HO701.out hb); have n1_ := Ad_.mk (Kd.R_lower ho25 (bZ_ (Bo_ HB.out GE686.out))); have n2_ := Ad_.mk (blk_below (g := gb686) (o := .cells #[.int .i64 a0_0, .int .i64 a0_1, .int .i64 a0_2, .int .i64 a0_3, .int .i64 a0_4, .string a0_5, .string a0_6] 55 (0, 0)) (Ko_ BK686.out) hb); have n3_ := Ad_.mk (bP_ (Bo_ HB.out GE686.out) hb); clear HO701; clear BK686; clear HB; have HO701 := n0_; have HO704 := n1_; have BK686 := n2_; have HB := n3_; clear n0_ n1_ n2_ n3_; clear hb ho25))
        go_ret2
        exact ⟨_, _, er_, by (with_reducible repeat (first | apply Kd.R_alloc | apply Kd.R_drewN | apply Kd.R_drew)); exact HO701.out, by (with_reducible repeat (first | apply Kd.R_alloc | apply Kd.R_drewN | apply Kd.R_drew)); exact HO704.out, Bo_ HB.out GE686.out⟩
       rw [if_pos c15] at H
       have c15b0 : (a1 == a0_2) = true := beq_iff_eq.mpr c15
       have c15b1 : (a1 != a0_2) = false := bne_eq_false_iff_eq.mpr c15
       clear c15
       obtain ⟨y693, hy693⟩ : ∃ y_ : List ByteArray, y_ = (([a0_5] : List ByteArray)) := ⟨_, rfl⟩
       replace H : (some (y693, (([0] : List Int)))) = some (r1, r2) := by first | (rw [hy693]; with_reducible exact H) | (have H2_ := (Option.bind_some _ _).symm.trans H; rw [hy693]; with_reducible exact H2_) | (have H2_ := (Option.bind_some _ _).symm.trans H; with_reducible exact H2_) | with_reducible exact H | (rw [hy693]; exact H) | exact H
       have Ny693 := Ad_.mk hy693
       clear hy693
       obtain ⟨y696, hy696⟩ : ∃ y_ : List Int, y_ = (([0] : List Int)) := ⟨_, rfl⟩
       replace H : (some (y693, y696)) = some (r1, r2) := by first | (rw [hy696]; with_reducible exact H) | (have H2_ := (Option.bind_some _ _).symm.trans H; rw [hy696]; with_reducible exact H2_) | (have H2_ := (Option.bind_some _ _).symm.trans H; with_reducible exact H2_) | with_reducible exact H | (rw [hy696]; exact H) | exact H
       have Ny696 := Ad_.mk hy696
       clear hy696
       simp only [Option.some.injEq, Prod.mk.injEq] at H
       obtain ⟨rfl, rfl⟩ := H
       obtain ⟨hcz16_0, hcz16_1, hcz16_2, hcz16_3, hcz16_4, hcz16_5, hcz16_6⟩ := cells7_ BK686.out
       obtain ⟨hfz16_0, hfz16_1, hfz16_2, hfz16_3, hfz16_4, hfz16_5, hfz16_6⟩ := froz7_ BK686.out
       go_wp2_with (first | ((with_reducible refine gD_ (N := 23) rfl ?_); refine Kd.R_lit Kd.string _ 9 ?hg (N := 23) ?hd (xs := ([a0_5] : List ByteArray)) (inner := [.string a0_5]) (ok := fun _ => True) (okp := fun _ => True) ?hr ?hp (fun _ hk => hk) trivial (Below.refl _ _) (Nat.le_refl _) (by simp) ?_; (case hd => rfl); (case hg => rfl); (case hr => first | (go_simp; done) | (go_simp; rfl)); (case hp => exact (Reps.one (show Kd.M Kd.string _ _ _ a0_5 [.string a0_5] from rfl) (Reps.none _ _))); intro v694 w17 ho18 hb hg_ hnew_; clear hg_ hnew_; (first | rw [← Ny693.out] at ho18 | (simp only [Int.reduceToNat] at ho18; rw [← Ny693.out] at ho18)); have n0_ := Ad_.mk (Kd.R_lower ho18 (bZ_ (Bo_ HB.out GE686.out))); have n1_ := Ad_.mk (blk_below (g := gb686) (o := .cells #[.int .i64 a0_0, .int .i64 a0_1, .int .i64 a0_2, .int .i64 a0_3, .int .i64 a0_4, .string a0_5, .string a0_6] 55 (0, 0)) (Ko_ BK686.out) hb); have n2_ := Ad_.mk (bP_ (Bo_ HB.out GE686.out) hb); clear BK686; clear HB; have HO695 := n0_; have BK686 := n1_; have HB := n2_; clear n0_ n1_ n2_; clear hb ho18) | ((with_reducible refine gD_ (N := 24) rfl ?_); refine Kd.R_lit (Kd.int .i64) _ 3 ?hg (N := 24) ?hd (xs := ([0] : List Int)) (inner := [.int .i64 0]) (ok := fun _ => True) (okp := fun _ => True) ?hr ?hp (fun _ hk => hk) trivial (Below.refl _ _) (Nat.le_refl _) (by simp) ?_; (case hd => rfl); (case hg => rfl); (case hr => first | (go_simp; done) | (go_simp; rfl)); (case hp => exact (Reps.one (show Kd.M (Kd.int .i64) _ _ _ 0 [.int .i64 0] from rfl) (Reps.none _ _))); intro v697 w19 ho20 hb hg_ hnew_; clear hg_ hnew_; (first | rw [← Ny696.out] at ho20 | (simp only [Int.reduceToNat] at ho20; rw [← Ny696.out] at ho20)); have n0_ := Ad_.mk (Rb_ HO695.out hb); have n1_ := Ad_.mk (Kd.R_lower ho20 (bZ_ (Bo_ HB.out GE686.out))); have n2_ := Ad_.mk (blk_below (g := gb686) (o := .cells #[.int .i64 a0_0, .int .i64 a0_1, .int .i64 a0_2, .int .i64 a0_3, .int .i64 a0_4, .string a0_5, .string a0_6] 55 (0, 0)) (Ko_ BK686.out) hb); have n3_ := Ad_.mk (bP_ (Bo_ HB.out GE686.out) hb); clear HO695; clear BK686; clear HB; have HO695 := n0_; have HO698 := n1_; have BK686 := n2_; have HB := n3_; clear n0_ n1_ n2_ n3_; clear hb ho20))
       go_ret2
       exact ⟨_, _, er_, by (with_reducible repeat (first | apply Kd.R_alloc | apply Kd.R_drewN | apply Kd.R_drew)); exact HO695.out, by (with_reducible repeat (first | apply Kd.R_alloc | apply Kd.R_drewN | apply Kd.R_drew)); exact HO698.out, Bo_ HB.out GE686.out⟩
      replace c14 := Bool.eq_false_iff.mpr c14
      subst c14
      have H1 : (if a0_0 = 6 then (if a1 = a0_1 then (some ((([a0_6, a0_5] : List ByteArray)), (([1, 0] : List Int)))) else (some ((([a0_5] : List ByteArray)), (([0] : List Int))))) else (if a0_0 = 14 then (if a1 = a0_3 then (some ((([a0_6, a0_5] : List ByteArray)), (([1, 0] : List Int)))) else (some ((([] : List ByteArray)), (([] : List Int))))) else (some ((([] : List ByteArray)), (([] : List Int)))))) = some (r1, r2) := by rw [if_neg (show ¬ (false = true) by decide)] at H; exact H
      clear H
      have H := H1
      clear H1
      by_cases c26 : a0_0 = 6
      ·
       rw [if_pos c26] at H
       have c26b0 : (a0_0 == 6) = true := beq_iff_eq.mpr c26
       have c26b1 : (a0_0 != 6) = false := bne_eq_false_iff_eq.mpr c26
       clear c26
       by_cases c27 : a1 = a0_1
       rotate_left
       ·
        rw [if_neg c27] at H
        have c27b0 : (a1 == a0_1) = false := beq_eq_false_iff_ne.mpr c27
        have c27b1 : (a1 != a0_1) = true := bne_iff_ne.mpr c27
        obtain ⟨y711, hy711⟩ : ∃ y_ : List ByteArray, y_ = (([a0_5] : List ByteArray)) := ⟨_, rfl⟩
        replace H : (some (y711, (([0] : List Int)))) = some (r1, r2) := by first | (rw [hy711]; with_reducible exact H) | (have H2_ := (Option.bind_some _ _).symm.trans H; rw [hy711]; with_reducible exact H2_) | (have H2_ := (Option.bind_some _ _).symm.trans H; with_reducible exact H2_) | with_reducible exact H | (rw [hy711]; exact H) | exact H
        have Ny711 := Ad_.mk hy711
        clear hy711
        obtain ⟨y714, hy714⟩ : ∃ y_ : List Int, y_ = (([0] : List Int)) := ⟨_, rfl⟩
        replace H : (some (y711, y714)) = some (r1, r2) := by first | (rw [hy714]; with_reducible exact H) | (have H2_ := (Option.bind_some _ _).symm.trans H; rw [hy714]; with_reducible exact H2_) | (have H2_ := (Option.bind_some _ _).symm.trans H; with_reducible exact H2_) | with_reducible exact H | (rw [hy714]; exact H) | exact H
        have Ny714 := Ad_.mk hy714
        clear hy714
        simp only [Option.some.injEq, Prod.mk.injEq] at H
        obtain ⟨rfl, rfl⟩ := H
        obtain ⟨hcz33_0, hcz33_1, hcz33_2, hcz33_3, hcz33_4, hcz33_5, hcz33_6⟩ := cells7_ BK686.out
        obtain ⟨hfz33_0, hfz33_1, hfz33_2, hfz33_3, hfz33_4, hfz33_5, hfz33_6⟩ := froz7_ BK686.out
        go_wp2_with (first | ((with_reducible refine gD_ (N := 39) rfl ?_); refine Kd.R_lit Kd.string _ 9 ?hg (N := 39) ?hd (xs := ([a0_5] : List ByteArray)) (inner := [.string a0_5]) (ok := fun _ => True) (okp := fun _ => True) ?hr ?hp (fun _ hk => hk) trivial (Below.refl _ _) (Nat.le_refl _) (by simp) ?_; (case hd => rfl); (case hg => rfl); (case hr => first | (go_simp; done) | (go_simp; rfl)); (case hp => exact (Reps.one (show Kd.M Kd.string _ _ _ a0_5 [.string a0_5] from rfl) (Reps.none _ _))); intro v712 w34 ho35 hb hg_ hnew_; clear hg_ hnew_; (first | rw [← Ny711.out] at ho35 | (simp only [Int.reduceToNat] at ho35; rw [← Ny711.out] at ho35)); have n0_ := Ad_.mk (Kd.R_lower ho35 (bZ_ (Bo_ HB.out GE686.out))); have n1_ := Ad_.mk (blk_below (g := gb686) (o := .cells #[.int .i64 a0_0, .int .i64 a0_1, .int .i64 a0_2, .int .i64 a0_3, .int .i64 a0_4, .string a0_5, .string a0_6] 55 (0, 0)) (Ko_ BK686.out) hb); have n2_ := Ad_.mk (bP_ (Bo_ HB.out GE686.out) hb); clear BK686; clear HB; have HO713 := n0_; have BK686 := n1_; have HB := n2_; clear n0_ n1_ n2_; clear hb ho35) | ((with_reducible refine gD_ (N := 40) rfl ?_); refine Kd.R_lit (Kd.int .i64) _ 3 ?hg (N := 40) ?hd (xs := ([0] : List Int)) (inner := [.int .i64 0]) (ok := fun _ => True) (okp := fun _ => True) ?hr ?hp (fun _ hk => hk) trivial (Below.refl _ _) (Nat.le_refl _) (by simp) ?_; (case hd => rfl); (case hg => rfl); (case hr => first | (go_simp; done) | (go_simp; rfl)); (case hp => exact (Reps.one (show Kd.M (Kd.int .i64) _ _ _ 0 [.int .i64 0] from rfl) (Reps.none _ _))); intro v715 w36 ho37 hb hg_ hnew_; clear hg_ hnew_; (first | rw [← Ny714.out] at ho37 | (simp only [Int.reduceToNat] at ho37; rw [← Ny714.out] at ho37)); have n0_ := Ad_.mk (Rb_ HO713.out hb); have n1_ := Ad_.mk (Kd.R_lower ho37 (bZ_ (Bo_ HB.out GE686.out))); have n2_ := Ad_.mk (blk_below (g := gb686) (o := .cells #[.int .i64 a0_0, .int .i64 a0_1, .int .i64 a0_2, .int .i64 a0_3, .int .i64 a0_4, .string a0_5, .string a0_6] 55 (0, 0)) (Ko_ BK686.out) hb); have n3_ := Ad_.mk (bP_ (Bo_ HB.out GE686.out) hb); clear HO713; clear BK686; clear HB; have HO713 := n0_; have HO716 := n1_; have BK686 := n2_; have HB := n3_; clear n0_ n1_ n2_ n3_; clear hb ho37))
        go_ret2
        exact ⟨_, _, er_, by (with_reducible repeat (first | apply Kd.R_alloc | apply Kd.R_drewN | apply Kd.R_drew)); exact HO713.out, by (with_reducible repeat (first | apply Kd.R_alloc | apply Kd.R_drewN | apply Kd.R_drew)); exact HO716.out, Bo_ HB.out GE686.out⟩
       rw [if_pos c27] at H
       have c27b0 : (a1 == a0_1) = true := beq_iff_eq.mpr c27
       have c27b1 : (a1 != a0_1) = false := bne_eq_false_iff_eq.mpr c27
       clear c27
       obtain ⟨y705, hy705⟩ : ∃ y_ : List ByteArray, y_ = (([a0_6, a0_5] : List ByteArray)) := ⟨_, rfl⟩
       replace H : (some (y705, (([1, 0] : List Int)))) = some (r1, r2) := by first | (rw [hy705]; with_reducible exact H) | (have H2_ := (Option.bind_some _ _).symm.trans H; rw [hy705]; with_reducible exact H2_) | (have H2_ := (Option.bind_some _ _).symm.trans H; with_reducible exact H2_) | with_reducible exact H | (rw [hy705]; exact H) | exact H
       have Ny705 := Ad_.mk hy705
       clear hy705
       obtain ⟨y708, hy708⟩ : ∃ y_ : List Int, y_ = (([1, 0] : List Int)) := ⟨_, rfl⟩
       replace H : (some (y705, y708)) = some (r1, r2) := by first | (rw [hy708]; with_reducible exact H) | (have H2_ := (Option.bind_some _ _).symm.trans H; rw [hy708]; with_reducible exact H2_) | (have H2_ := (Option.bind_some _ _).symm.trans H; with_reducible exact H2_) | with_reducible exact H | (rw [hy708]; exact H) | exact H
       have Ny708 := Ad_.mk hy708
       clear hy708
       simp only [Option.some.injEq, Prod.mk.injEq] at H
       obtain ⟨rfl, rfl⟩ := H
       obtain ⟨hcz28_0, hcz28_1, hcz28_2, hcz28_3, hcz28_4, hcz28_5, hcz28_6⟩ := cells7_ BK686.out
       obtain ⟨hfz28_0, hfz28_1, hfz28_2, hfz28_3, hfz28_4, hfz28_5, hfz28_6⟩ := froz7_ BK686.out
       go_wp2_with (first | ((with_reducible refine gD_ (N := 35) rfl ?_); refine Kd.R_lit Kd.string _ 9 ?hg (N := 35) ?hd (xs := ([a0_6, a0_5] : List ByteArray)) (inner := [.string a0_6, .string a0_5]) (ok := fun _ => True) (okp := fun _ => True) ?hr ?hp (fun _ hk => hk) trivial (Below.refl _ _) (Nat.le_refl _) (by simp) ?_; (case hd => rfl); (case hg => rfl); (case hr => first | (go_simp; done) | (go_simp; rfl)); (case hp => exact (Reps.one (show Kd.M Kd.string _ _ _ a0_6 [.string a0_6] from rfl) (Reps.one (show Kd.M Kd.string _ _ _ a0_5 [.string a0_5] from rfl) (Reps.none _ _)))); intro v706 w29 ho30 hb hg_ hnew_; clear hg_ hnew_; (first | rw [← Ny705.out] at ho30 | (simp only [Int.reduceToNat] at ho30; rw [← Ny705.out] at ho30)); have n0_ := Ad_.mk (Kd.R_lower ho30 (bZ_ (Bo_ HB.out GE686.out))); have n1_ := Ad_.mk (blk_below (g := gb686) (o := .cells #[.int .i64 a0_0, .int .i64 a0_1, .int .i64 a0_2, .int .i64 a0_3, .int .i64 a0_4, .string a0_5, .string a0_6] 55 (0, 0)) (Ko_ BK686.out) hb); have n2_ := Ad_.mk (bP_ (Bo_ HB.out GE686.out) hb); clear BK686; clear HB; have HO707 := n0_; have BK686 := n1_; have HB := n2_; clear n0_ n1_ n2_; clear hb ho30) | ((with_reducible refine gD_ (N := 36) rfl ?_); refine Kd.R_lit (Kd.int .i64) _ 3 ?hg (N := 36) ?hd (xs := ([1, 0] : List Int)) (inner := [.int .i64 1, .int .i64 0]) (ok := fun _ => True) (okp := fun _ => True) ?hr ?hp (fun _ hk => hk) trivial (Below.refl _ _) (Nat.le_refl _) (by simp) ?_; (case hd => rfl); (case hg => rfl); (case hr => first | (go_simp; done) | (go_simp; rfl)); (case hp => exact (Reps.one (show Kd.M (Kd.int .i64) _ _ _ 1 [.int .i64 1] from rfl) (Reps.one (show Kd.M (Kd.int .i64) _ _ _ 0 [.int .i64 0] from rfl) (Reps.none _ _)))); intro v709 w31 ho32 hb hg_ hnew_; clear hg_ hnew_; (first | rw [← Ny708.out] at ho32 | (simp only [Int.reduceToNat] at ho32; rw [← Ny708.out] at ho32)); have n0_ := Ad_.mk (Rb_ HO707.out hb); have n1_ := Ad_.mk (Kd.R_lower ho32 (bZ_ (Bo_ HB.out GE686.out))); have n2_ := Ad_.mk (blk_below (g := gb686) (o := .cells #[.int .i64 a0_0, .int .i64 a0_1, .int .i64 a0_2, .int .i64 a0_3, .int .i64 a0_4, .string a0_5, .string a0_6] 55 (0, 0)) (Ko_ BK686.out) hb); have n3_ := Ad_.mk (bP_ (Bo_ HB.out GE686.out) hb); clear HO707; clear BK686; clear HB; have HO707 := n0_; have HO710 := n1_; have BK686 := n2_; have HB := n3_; clear n0_ n1_ n2_ n3_; clear hb ho32))
       go_ret2
       exact ⟨_, _, er_, by (with_reducible repeat (first | apply Kd.R_alloc | apply Kd.R_drewN | apply Kd.R_drew)); exact HO707.out, by (with_reducible repeat (first | apply Kd.R_alloc | apply Kd.R_drewN | apply Kd.R_drew)); exact HO710.out, Bo_ HB.out GE686.out⟩
      rw [if_neg c26] at H
      have c26b0 : (a0_0 == 6) = false := beq_eq_false_iff_ne.mpr c26
      have c26b1 : (a0_0 != 6) = true := bne_iff_ne.mpr c26
      by_cases c38 : a0_0 = 14
      rotate_left
      ·
       rw [if_neg c38] at H
       have c38b0 : (a0_0 == 14) = false := beq_eq_false_iff_ne.mpr c38
       have c38b1 : (a0_0 != 14) = true := bne_iff_ne.mpr c38
       obtain ⟨y729, hy729⟩ : ∃ y_ : List ByteArray, y_ = (([] : List ByteArray)) := ⟨_, rfl⟩
       replace H : (some (y729, (([] : List Int)))) = some (r1, r2) := by first | (rw [hy729]; with_reducible exact H) | (have H2_ := (Option.bind_some _ _).symm.trans H; rw [hy729]; with_reducible exact H2_) | (have H2_ := (Option.bind_some _ _).symm.trans H; with_reducible exact H2_) | with_reducible exact H | (rw [hy729]; exact H) | exact H
       have Ny729 := Ad_.mk hy729
       clear hy729
       obtain ⟨y732, hy732⟩ : ∃ y_ : List Int, y_ = (([] : List Int)) := ⟨_, rfl⟩
       replace H : (some (y729, y732)) = some (r1, r2) := by first | (rw [hy732]; with_reducible exact H) | (have H2_ := (Option.bind_some _ _).symm.trans H; rw [hy732]; with_reducible exact H2_) | (have H2_ := (Option.bind_some _ _).symm.trans H; with_reducible exact H2_) | with_reducible exact H | (rw [hy732]; exact H) | exact H
       have Ny732 := Ad_.mk hy732
       clear hy732
       simp only [Option.some.injEq, Prod.mk.injEq] at H
       obtain ⟨rfl, rfl⟩ := H
       go_wp2_with (first | ((with_reducible refine gD_ (N := 53) rfl ?_); refine Kd.R_lit Kd.string _ 9 ?hg (N := 53) ?hd (xs := ([] : List ByteArray)) (inner := []) (ok := fun _ => True) (okp := fun _ => True) ?hr ?hp (fun _ hk => hk) trivial (Below.refl _ _) (Nat.le_refl _) (by simp) ?_; (case hd => rfl); (case hg => rfl); (case hr => first | (go_simp; done) | (go_simp; rfl)); (case hp => exact (Reps.none _ _)); intro v730 w50 ho51 hb hg_ hnew_; clear hg_ hnew_; (first | rw [← Ny729.out] at ho51 | (simp only [Int.reduceToNat] at ho51; rw [← Ny729.out] at ho51)); have n0_ := Ad_.mk (Kd.R_lower ho51 (bZ_ (Bo_ HB.out GE686.out))); have n1_ := Ad_.mk (blk_below (g := gb686) (o := .cells #[.int .i64 a0_0, .int .i64 a0_1, .int .i64 a0_2, .int .i64 a0_3, .int .i64 a0_4, .string a0_5, .string a0_6] 55 (0, 0)) (Ko_ BK686.out) hb); have n2_ := Ad_.mk (bP_ (Bo_ HB.out GE686.out) hb); clear BK686; clear HB; have HO731 := n0_; have BK686 := n1_; have HB := n2_; clear n0_ n1_ n2_; clear hb ho51) | ((with_reducible refine gD_ (N := 54) rfl ?_); refine Kd.R_lit (Kd.int .i64) _ 3 ?hg (N := 54) ?hd (xs := ([] : List Int)) (inner := []) (ok := fun _ => True) (okp := fun _ => True) ?hr ?hp (fun _ hk => hk) trivial (Below.refl _ _) (Nat.le_refl _) (by simp) ?_; (case hd => rfl); (case hg => rfl); (case hr => first | (go_simp; done) | (go_simp; rfl)); (case hp => exact (Reps.none _ _)); intro v733 w52 ho53 hb hg_ hnew_; clear hg_ hnew_; (first | rw [← Ny732.out] at ho53 | (simp only [Int.reduceToNat] at ho53; rw [← Ny732.out] at ho53)); have n0_ := Ad_.mk (Rb_ HO731.out hb); have n1_ := Ad_.mk (Kd.R_lower ho53 (bZ_ (Bo_ HB.out GE686.out))); have n2_ := Ad_.mk (blk_below (g := gb686) (o := .cells #[.int .i64 a0_0, .int .i64 a0_1, .int .i64 a0_2, .int .i64 a0_3, .int .i64 a0_4, .string a0_5, .string a0_6] 55 (0, 0)) (Ko_ BK686.out) hb); have n3_ := Ad_.mk (bP_ (Bo_ HB.out GE686.out) hb); clear HO731; clear BK686; clear HB; have HO731 := n0_; have HO734 := n1_; have BK686 := n2_; have HB := n3_; clear n0_ n1_ n2_ n3_; clear hb ho53))
       go_ret2
       exact ⟨_, _, er_, by (with_reducible repeat (first | apply Kd.R_alloc | apply Kd.R_drewN | apply Kd.R_drew)); exact HO731.out, by (with_reducible repeat (first | apply Kd.R_alloc | apply Kd.R_drewN | apply Kd.R_drew)); exact HO734.out, Bo_ HB.out GE686.out⟩
      rw [if_pos c38] at H
      have c38b0 : (a0_0 == 14) = true := beq_iff_eq.mpr c38
      have c38b1 : (a0_0 != 14) = false := bne_eq_false_iff_eq.mpr c38
      clear c38
      by_cases c39 : a1 = a0_3
      rotate_left
      ·
       rw [if_neg c39] at H
       have c39b0 : (a1 == a0_3) = false := beq_eq_false_iff_ne.mpr c39
       have c39b1 : (a1 != a0_3) = true := bne_iff_ne.mpr c39
       obtain ⟨y723, hy723⟩ : ∃ y_ : List ByteArray, y_ = (([] : List ByteArray)) := ⟨_, rfl⟩
       replace H : (some (y723, (([] : List Int)))) = some (r1, r2) := by first | (rw [hy723]; with_reducible exact H) | (have H2_ := (Option.bind_some _ _).symm.trans H; rw [hy723]; with_reducible exact H2_) | (have H2_ := (Option.bind_some _ _).symm.trans H; with_reducible exact H2_) | with_reducible exact H | (rw [hy723]; exact H) | exact H
       have Ny723 := Ad_.mk hy723
       clear hy723
       obtain ⟨y726, hy726⟩ : ∃ y_ : List Int, y_ = (([] : List Int)) := ⟨_, rfl⟩
       replace H : (some (y723, y726)) = some (r1, r2) := by first | (rw [hy726]; with_reducible exact H) | (have H2_ := (Option.bind_some _ _).symm.trans H; rw [hy726]; with_reducible exact H2_) | (have H2_ := (Option.bind_some _ _).symm.trans H; with_reducible exact H2_) | with_reducible exact H | (rw [hy726]; exact H) | exact H
       have Ny726 := Ad_.mk hy726
       clear hy726
       simp only [Option.some.injEq, Prod.mk.injEq] at H
       obtain ⟨rfl, rfl⟩ := H
       obtain ⟨hcz45_0, hcz45_1, hcz45_2, hcz45_3, hcz45_4, hcz45_5, hcz45_6⟩ := cells7_ BK686.out
       obtain ⟨hfz45_0, hfz45_1, hfz45_2, hfz45_3, hfz45_4, hfz45_5, hfz45_6⟩ := froz7_ BK686.out
       go_wp2_with (first | ((with_reducible refine gD_ (N := 53) rfl ?_); refine Kd.R_lit Kd.string _ 9 ?hg (N := 53) ?hd (xs := ([] : List ByteArray)) (inner := []) (ok := fun _ => True) (okp := fun _ => True) ?hr ?hp (fun _ hk => hk) trivial (Below.refl _ _) (Nat.le_refl _) (by simp) ?_; (case hd => rfl); (case hg => rfl); (case hr => first | (go_simp; done) | (go_simp; rfl)); (case hp => exact (Reps.none _ _)); intro v724 w46 ho47 hb hg_ hnew_; clear hg_ hnew_; (first | rw [← Ny723.out] at ho47 | (simp only [Int.reduceToNat] at ho47; rw [← Ny723.out] at ho47)); have n0_ := Ad_.mk (Kd.R_lower ho47 (bZ_ (Bo_ HB.out GE686.out))); have n1_ := Ad_.mk (blk_below (g := gb686) (o := .cells #[.int .i64 a0_0, .int .i64 a0_1, .int .i64 a0_2, .int .i64 a0_3, .int .i64 a0_4, .string a0_5, .string a0_6] 55 (0, 0)) (Ko_ BK686.out) hb); have n2_ := Ad_.mk (bP_ (Bo_ HB.out GE686.out) hb); clear BK686; clear HB; have HO725 := n0_; have BK686 := n1_; have HB := n2_; clear n0_ n1_ n2_; clear hb ho47) | ((with_reducible refine gD_ (N := 54) rfl ?_); refine Kd.R_lit (Kd.int .i64) _ 3 ?hg (N := 54) ?hd (xs := ([] : List Int)) (inner := []) (ok := fun _ => True) (okp := fun _ => True) ?hr ?hp (fun _ hk => hk) trivial (Below.refl _ _) (Nat.le_refl _) (by simp) ?_; (case hd => rfl); (case hg => rfl); (case hr => first | (go_simp; done) | (go_simp; rfl)); (case hp => exact (Reps.none _ _)); intro v727 w48 ho49 hb hg_ hnew_; clear hg_ hnew_; (first | rw [← Ny726.out] at ho49 | (simp only [Int.reduceToNat] at ho49; rw [← Ny726.out] at ho49)); have n0_ := Ad_.mk (Rb_ HO725.out hb); have n1_ := Ad_.mk (Kd.R_lower ho49 (bZ_ (Bo_ HB.out GE686.out))); have n2_ := Ad_.mk (blk_below (g := gb686) (o := .cells #[.int .i64 a0_0, .int .i64 a0_1, .int .i64 a0_2, .int .i64 a0_3, .int .i64 a0_4, .string a0_5, .string a0_6] 55 (0, 0)) (Ko_ BK686.out) hb); have n3_ := Ad_.mk (bP_ (Bo_ HB.out GE686.out) hb); clear HO725; clear BK686; clear HB; have HO725 := n0_; have HO728 := n1_; have BK686 := n2_; have HB := n3_; clear n0_ n1_ n2_ n3_; clear hb ho49))
       go_ret2
       exact ⟨_, _, er_, by (with_reducible repeat (first | apply Kd.R_alloc | apply Kd.R_drewN | apply Kd.R_drew)); exact HO725.out, by (with_reducible repeat (first | apply Kd.R_alloc | apply Kd.R_drewN | apply Kd.R_drew)); exact HO728.out, Bo_ HB.out GE686.out⟩
      rw [if_pos c39] at H
      have c39b0 : (a1 == a0_3) = true := beq_iff_eq.mpr c39
      have c39b1 : (a1 != a0_3) = false := bne_eq_false_iff_eq.mpr c39
      clear c39
      obtain ⟨y717, hy717⟩ : ∃ y_ : List ByteArray, y_ = (([a0_6, a0_5] : List ByteArray)) := ⟨_, rfl⟩
      replace H : (some (y717, (([1, 0] : List Int)))) = some (r1, r2) := by first | (rw [hy717]; with_reducible exact H) | (have H2_ := (Option.bind_some _ _).symm.trans H; rw [hy717]; with_reducible exact H2_) | (have H2_ := (Option.bind_some _ _).symm.trans H; with_reducible exact H2_) | with_reducible exact H | (rw [hy717]; exact H) | exact H
      have Ny717 := Ad_.mk hy717
      clear hy717
      obtain ⟨y720, hy720⟩ : ∃ y_ : List Int, y_ = (([1, 0] : List Int)) := ⟨_, rfl⟩
      replace H : (some (y717, y720)) = some (r1, r2) := by first | (rw [hy720]; with_reducible exact H) | (have H2_ := (Option.bind_some _ _).symm.trans H; rw [hy720]; with_reducible exact H2_) | (have H2_ := (Option.bind_some _ _).symm.trans H; with_reducible exact H2_) | with_reducible exact H | (rw [hy720]; exact H) | exact H
      have Ny720 := Ad_.mk hy720
      clear hy720
      simp only [Option.some.injEq, Prod.mk.injEq] at H
      obtain ⟨rfl, rfl⟩ := H
      obtain ⟨hcz40_0, hcz40_1, hcz40_2, hcz40_3, hcz40_4, hcz40_5, hcz40_6⟩ := cells7_ BK686.out
      obtain ⟨hfz40_0, hfz40_1, hfz40_2, hfz40_3, hfz40_4, hfz40_5, hfz40_6⟩ := froz7_ BK686.out
      go_wp2_with (first | ((with_reducible refine gD_ (N := 51) rfl ?_); refine Kd.R_lit Kd.string _ 9 ?hg (N := 51) ?hd (xs := ([a0_6, a0_5] : List ByteArray)) (inner := [.string a0_6, .string a0_5]) (ok := fun _ => True) (okp := fun _ => True) ?hr ?hp (fun _ hk => hk) trivial (Below.refl _ _) (Nat.le_refl _) (by simp) ?_; (case hd => rfl); (case hg => rfl); (case hr => first | (go_simp; done) | (go_simp; rfl)); (case hp => exact (Reps.one (show Kd.M Kd.string _ _ _ a0_6 [.string a0_6] from rfl) (Reps.one (show Kd.M Kd.string _ _ _ a0_5 [.string a0_5] from rfl) (Reps.none _ _)))); intro v718 w41 ho42 hb hg_ hnew_; clear hg_ hnew_; (first | rw [← Ny717.out] at ho42 | (simp only [Int.reduceToNat] at ho42; rw [← Ny717.out] at ho42)); have n0_ := Ad_.mk (Kd.R_lower ho42 (bZ_ (Bo_ HB.out GE686.out))); have n1_ := Ad_.mk (blk_below (g := gb686) (o := .cells #[.int .i64 a0_0, .int .i64 a0_1, .int .i64 a0_2, .int .i64 a0_3, .int .i64 a0_4, .string a0_5, .string a0_6] 55 (0, 0)) (Ko_ BK686.out) hb); have n2_ := Ad_.mk (bP_ (Bo_ HB.out GE686.out) hb); clear BK686; clear HB; have HO719 := n0_; have BK686 := n1_; have HB := n2_; clear n0_ n1_ n2_; clear hb ho42) | ((with_reducible refine gD_ (N := 52) rfl ?_); refine Kd.R_lit (Kd.int .i64) _ 3 ?hg (N := 52) ?hd (xs := ([1, 0] : List Int)) (inner := [.int .i64 1, .int .i64 0]) (ok := fun _ => True) (okp := fun _ => True) ?hr ?hp (fun _ hk => hk) trivial (Below.refl _ _) (Nat.le_refl _) (by simp) ?_; (case hd => rfl); (case hg => rfl); (case hr => first | (go_simp; done) | (go_simp; rfl)); (case hp => exact (Reps.one (show Kd.M (Kd.int .i64) _ _ _ 1 [.int .i64 1] from rfl) (Reps.one (show Kd.M (Kd.int .i64) _ _ _ 0 [.int .i64 0] from rfl) (Reps.none _ _)))); intro v721 w43 ho44 hb hg_ hnew_; clear hg_ hnew_; (first | rw [← Ny720.out] at ho44 | (simp only [Int.reduceToNat] at ho44; rw [← Ny720.out] at ho44)); have n0_ := Ad_.mk (Rb_ HO719.out hb); have n1_ := Ad_.mk (Kd.R_lower ho44 (bZ_ (Bo_ HB.out GE686.out))); have n2_ := Ad_.mk (blk_below (g := gb686) (o := .cells #[.int .i64 a0_0, .int .i64 a0_1, .int .i64 a0_2, .int .i64 a0_3, .int .i64 a0_4, .string a0_5, .string a0_6] 55 (0, 0)) (Ko_ BK686.out) hb); have n3_ := Ad_.mk (bP_ (Bo_ HB.out GE686.out) hb); clear HO719; clear BK686; clear HB; have HO719 := n0_; have HO722 := n1_; have BK686 := n2_; have HB := n3_; clear n0_ n1_ n2_ n3_; clear hb ho44))
      go_ret2
      exact ⟨_, _, er_, by (with_reducible repeat (first | apply Kd.R_alloc | apply Kd.R_drewN | apply Kd.R_drew)); exact HO719.out, by (with_reducible repeat (first | apply Kd.R_alloc | apply Kd.R_drewN | apply Kd.R_drew)); exact HO722.out, Bo_ HB.out GE686.out⟩
end Go.Proofs.YtfmlamheflbgdaaDoor.PAll
end
section
namespace Go.Proofs.YtfmlamheflbgdaaDoor.PAll
open Go.RowKit Go.Proofs.YtfmlamheflbgdaaDoorW.PrintWords Go.Proofs.YtfmlamheflbgdaaDoorW.PrintLast Go.Proofs.YtfmlamheflbgdaaDoorW.PrintMore
attribute [local go_sem] max2_int min2_int max_two min_two max_three min_three max_four min_four
set_option linter.unusedVariables false
set_option linter.unusedSimpArgs false
mutual
def spec_BinderOf.j0 : Nat → List (S55) → Int → Bool → Int → Int → Option (Int × Int)
  | 0, _, _, _, _, _ => none
  | k + 1, x0, x1, x30, x737000, x737001 => if x30 = true then (some (x737000, x737001)) else ((spec_ParentOf.f k x0 x1).bind fun t740 => (spec_BinderOf.l0 k x0 x1 x1 t740 x737000 x737001))
def spec_BinderOf.l0 : Nat → List (S55) → Int → Int → Int → Int → Int → Option (Int × Int)
  | 0, _, _, _, _, _, _ => none
  | k + 1, x0, x1, x6, x7, x737000, x737001 => if x7 ≥ 0 then (if 0 ≤ x7 then (if x7 < (x0.length : Int) then ((spec_l6Bound.f k ((rd_T55 x0 x7).f0) ((rd_T55 x0 x7).f1) ((rd_T55 x0 x7).f2) ((rd_T55 x0 x7).f3) ((rd_T55 x0 x7).f4) ((rd_T55 x0 x7).f5) ((rd_T55 x0 x7).f6) x6).bind fun bt742 => (spec_BinderOf.l1 k x0 x1 x7 bt742.1 bt742.2 0 x737000 x737001)) else (none)) else (none)) else (some (x737000, x737001))
def spec_BinderOf.l1 : Nat → List (S55) → Int → Int → List ByteArray → List Int → Int → Int → Int → Option (Int × Int)
  | 0, _, _, _, _, _, _, _, _ => none
  | k + 1, x0, x1, x7, x8, x9, x10, x737000, x737001 => if x10 < (x8.length : Int) then (if 0 ≤ x10 then (if 0 ≤ x1 then (if x1 < (x0.length : Int) then (if (rdOf ByteArray.empty x8 x10).toList = ((rd_T55 x0 x1).f5).toList then (if x10 < (x9.length : Int) then (some (x7, rd x9 x10)) else (none)) else (spec_BinderOf.l1 k x0 x1 x7 x8 x9 (wrap64 (x10 + 1)) x737000 x737001)) else (none)) else (none)) else (none)) else ((spec_ParentOf.f k x0 x7).bind fun t751 => (spec_BinderOf.l0 k x0 x1 x7 t751 x737000 x737001))
end
def spec_BinderOf.f (k : Nat) (l0 : List (S55)) (a1 : Int) : Option (Int × Int) := (spec_NodesOk.f k l0).bind fun t737 => (if t737 = true then ((spec_l1In.f a1 0 (wrap64 ((l0.length : Int) - 1))).bind fun t738 => (if t738 = true then (if 0 ≤ a1 then (if a1 < (l0.length : Int) then (spec_BinderOf.j0 k l0 a1 (((rd_T55 l0 a1).f0) != 1) (-1) (-1)) else (none)) else (none)) else (spec_BinderOf.j0 k l0 a1 true (-1) (-1)))) else (spec_BinderOf.j0 k l0 a1 true (-1) (-1)))
set_option maxHeartbeats 8000000 in
set_option maxRecDepth 100000 in
theorem spec_BinderOf.calls (k : Nat) (A0 : Option Addr) (c0 : Nat) (l0 : List (S55)) (a1 : Int) (r1 : Int) (r2 : Int) (w : World) (hr0 : Kd.C k55 w A0 l0.length l0) (hc0 : l0.length ≤ c0) (h : spec_BinderOf.f k l0 a1 = some (r1, r2)) :
    Calls Tryd.prog 83 #[.slice A0 l0.length c0, .int .i64 a1] w fun e w' => e = .returned (.agg #[.int .i64 r1, .int .i64 r2]) ∧ Below w.heap.size w w' := by
  have hu59 := Tryd.underlying59
  have hu55 := Tryd.underlying55
  have HR0 := Ad_.mk hr0
  have HC0 := Ad_.mk hc0
  clear hr0 hc0
  have HB := Ad_.mk (Below.refl w.heap.size w)
  have H := h
  unfold spec_BinderOf.f at H
  clear h
  have HC3 := Ad_.mk H
  clear H
  go_enter Tryd.func83, Tryd.ntmps83
  go_upto_region 2 with (first | ((with_reducible refine gD_ (N := 4) rfl ?_); (try (refine gate_guard (by rfl) ?_; dsimp only)); refine bE_ ?hg (N := 4) ?hd (cs := #[.int .i64 0, .int .i64 0]) (t := 59) ?hr ?_; (case hd => rfl); (case hg => rfl); (case hr => first | (go_simp; done) | (go_simp; rfl)); intro gb735 hg w4 hbox hb; have n0_ := Ad_.mk (bQ_ HB.out hb); have n1_ := Ad_.mk (hbox); have n2_ := Ad_.mk ((by rw [hg]; exact (bZ_ (Bn_ HB.out)) : w.heap.size ≤ gb735)); have n3_ := Ad_.mk ((by rw [hg]; exact (bZ_ (Bn_ HB.out)) : w.heap.size ≤ gb735)); clear HB; have HB := n0_; have BK735 := n1_; have GW735 := n2_; have GE735 := n3_; clear n0_ n1_ n2_ n3_; clear hb hbox hg) | ((with_reducible refine gD_ (N := 5) rfl ?_); (try (refine gate_guard (by rfl) ?_; dsimp only)); refine bE_ ?hg (N := 5) ?hd (cs := #[.int .i64 0, .int .i64 0]) (t := 59) ?hr ?_; (case hd => rfl); (case hg => rfl); (case hr => first | (go_simp; done) | (go_simp; rfl)); intro gb736 hg w5 hbox hb; have n0_ := Ad_.mk (blk_below (g := gb735) (o := .cells #[.int .i64 0, .int .i64 0] 59 (0, 0)) (Ko_ BK735.out) hb); have n1_ := Ad_.mk (bP_ (Bo_ HB.out GE735.out) hb); have n2_ := Ad_.mk (hbox); have n3_ := Ad_.mk ((by rw [hg]; exact (bZ_ (Bo_ HB.out GE735.out)) : w.heap.size ≤ gb736)); have n4_ := Ad_.mk ((by rw [hg]; exact (bZ_ (Bo_ HB.out GE735.out)) : w.heap.size ≤ gb736)); have n5_ := Ad_.mk ((by rw [hg]; exact Nat.ne_of_lt (blk_lt (g := gb735) (o := .cells #[.int .i64 0, .int .i64 0] 59 (0, 0)) (Ko_ BK735.out)) : gb735 ≠ gb736)); have n6_ := Ad_.mk ((by rw [hg]; exact Nat.ne_of_gt (blk_lt (g := gb735) (o := .cells #[.int .i64 0, .int .i64 0] 59 (0, 0)) (Ko_ BK735.out)) : gb736 ≠ gb735)); clear BK735; clear HB; have BK735 := n0_; have HB := n1_; have BK736 := n2_; have GW736 := n3_; have GE736 := n4_; have NB735_736 := n5_; have NB736_735 := n6_; clear n0_ n1_ n2_ n3_ n4_ n5_ n6_; clear hb hbox hg; have hnb6 := NB736_735.out; have hnc6 := NB735_736.out; obtain ⟨hcz7_0, hcz7_1⟩ := cells2_ BK736.out; obtain ⟨hfz7_0, hfz7_1⟩ := froz2_ BK736.out))
  repeat (go_quiet (first | ((with_reducible refine gD_ (N := 4) rfl ?_); (try (refine gate_guard (by rfl) ?_; dsimp only)); refine bE_ ?hg (N := 4) ?hd (cs := #[.int .i64 0, .int .i64 0]) (t := 59) ?hr ?_; (case hd => rfl); (case hg => rfl); (case hr => first | (go_simp; done) | (go_simp; rfl)); intro gb735 hg w4 hbox hb; have n0_ := Ad_.mk (bQ_ HB.out hb); have n1_ := Ad_.mk (hbox); have n2_ := Ad_.mk ((by rw [hg]; exact (bZ_ (Bn_ HB.out)) : w.heap.size ≤ gb735)); have n3_ := Ad_.mk ((by rw [hg]; exact (bZ_ (Bn_ HB.out)) : w.heap.size ≤ gb735)); clear HB; have HB := n0_; have BK735 := n1_; have GW735 := n2_; have GE735 := n3_; clear n0_ n1_ n2_ n3_; clear hb hbox hg) | ((with_reducible refine gD_ (N := 5) rfl ?_); (try (refine gate_guard (by rfl) ?_; dsimp only)); refine bE_ ?hg (N := 5) ?hd (cs := #[.int .i64 0, .int .i64 0]) (t := 59) ?hr ?_; (case hd => rfl); (case hg => rfl); (case hr => first | (go_simp; done) | (go_simp; rfl)); intro gb736 hg w5 hbox hb; have n0_ := Ad_.mk (blk_below (g := gb735) (o := .cells #[.int .i64 0, .int .i64 0] 59 (0, 0)) (Ko_ BK735.out) hb); have n1_ := Ad_.mk (bP_ (Bo_ HB.out GE735.out) hb); have n2_ := Ad_.mk (hbox); have n3_ := Ad_.mk ((by rw [hg]; exact (bZ_ (Bo_ HB.out GE735.out)) : w.heap.size ≤ gb736)); have n4_ := Ad_.mk ((by rw [hg]; exact (bZ_ (Bo_ HB.out GE735.out)) : w.heap.size ≤ gb736)); have n5_ := Ad_.mk ((by rw [hg]; exact Nat.ne_of_lt (blk_lt (g := gb735) (o := .cells #[.int .i64 0, .int .i64 0] 59 (0, 0)) (Ko_ BK735.out)) : gb735 ≠ gb736)); have n6_ := Ad_.mk ((by rw [hg]; exact Nat.ne_of_gt (blk_lt (g := gb735) (o := .cells #[.int .i64 0, .int .i64 0] 59 (0, 0)) (Ko_ BK735.out)) : gb736 ≠ gb735)); clear BK735; clear HB; have BK735 := n0_; have HB := n1_; have BK736 := n2_; have GW736 := n3_; have GE736 := n4_; have NB735_736 := n5_; have NB736_735 := n6_; clear n0_ n1_ n2_ n3_ n4_ n5_ n6_; clear hb hbox hg; have hnb6 := NB736_735.out; have hnc6 := NB735_736.out; obtain ⟨hcz7_0, hcz7_1⟩ := cells2_ BK736.out; obtain ⟨hfz7_0, hfz7_1⟩ := froz2_ BK736.out)); go_upto_region 2 with (first | ((with_reducible refine gD_ (N := 4) rfl ?_); (try (refine gate_guard (by rfl) ?_; dsimp only)); refine bE_ ?hg (N := 4) ?hd (cs := #[.int .i64 0, .int .i64 0]) (t := 59) ?hr ?_; (case hd => rfl); (case hg => rfl); (case hr => first | (go_simp; done) | (go_simp; rfl)); intro gb735 hg w4 hbox hb; have n0_ := Ad_.mk (bQ_ HB.out hb); have n1_ := Ad_.mk (hbox); have n2_ := Ad_.mk ((by rw [hg]; exact (bZ_ (Bn_ HB.out)) : w.heap.size ≤ gb735)); have n3_ := Ad_.mk ((by rw [hg]; exact (bZ_ (Bn_ HB.out)) : w.heap.size ≤ gb735)); clear HB; have HB := n0_; have BK735 := n1_; have GW735 := n2_; have GE735 := n3_; clear n0_ n1_ n2_ n3_; clear hb hbox hg) | ((with_reducible refine gD_ (N := 5) rfl ?_); (try (refine gate_guard (by rfl) ?_; dsimp only)); refine bE_ ?hg (N := 5) ?hd (cs := #[.int .i64 0, .int .i64 0]) (t := 59) ?hr ?_; (case hd => rfl); (case hg => rfl); (case hr => first | (go_simp; done) | (go_simp; rfl)); intro gb736 hg w5 hbox hb; have n0_ := Ad_.mk (blk_below (g := gb735) (o := .cells #[.int .i64 0, .int .i64 0] 59 (0, 0)) (Ko_ BK735.out) hb); have n1_ := Ad_.mk (bP_ (Bo_ HB.out GE735.out) hb); have n2_ := Ad_.mk (hbox); have n3_ := Ad_.mk ((by rw [hg]; exact (bZ_ (Bo_ HB.out GE735.out)) : w.heap.size ≤ gb736)); have n4_ := Ad_.mk ((by rw [hg]; exact (bZ_ (Bo_ HB.out GE735.out)) : w.heap.size ≤ gb736)); have n5_ := Ad_.mk ((by rw [hg]; exact Nat.ne_of_lt (blk_lt (g := gb735) (o := .cells #[.int .i64 0, .int .i64 0] 59 (0, 0)) (Ko_ BK735.out)) : gb735 ≠ gb736)); have n6_ := Ad_.mk ((by rw [hg]; exact Nat.ne_of_gt (blk_lt (g := gb735) (o := .cells #[.int .i64 0, .int .i64 0] 59 (0, 0)) (Ko_ BK735.out)) : gb736 ≠ gb735)); clear BK735; clear HB; have BK735 := n0_; have HB := n1_; have BK736 := n2_; have GW736 := n3_; have GE736 := n4_; have NB735_736 := n5_; have NB736_735 := n6_; clear n0_ n1_ n2_ n3_ n4_ n5_ n6_; clear hb hbox hg; have hnb6 := NB736_735.out; have hnc6 := NB735_736.out; obtain ⟨hcz7_0, hcz7_1⟩ := cells2_ BK736.out; obtain ⟨hfz7_0, hfz7_1⟩ := froz2_ BK736.out)))
  (try simp only [Act.put, List.setIfInBounds_toArray, List.set_cons_zero, List.set_cons_succ])
  go_cut [30] (fun v30 wc => ∃ (kq : Nat) (x30_2 : Bool), v30 = .bool x30_2 ∧ Ad_ (spec_BinderOf.j0 kq l0 a1 x30_2 (-1) (-1) = some (r1, r2)) ∧ Ad_ (kq ≤ k) ∧ Ad_ (wc.heap[gb735]? = some (.cells #[.int .i64 0, .int .i64 0] 59 (0, 0))) ∧ Ad_ (wc.heap[gb736]? = some (.cells #[.int .i64 (-1), .int .i64 (-1)] 59 (0, 0))) ∧ Ad_ (Below w.heap.size w wc))
  case first =>
    have H := HC3.out
    clear HC3
    replace H := Option.bind_eq_some_iff.mp H
    obtain ⟨t737, A80, H⟩ := H
    try dsimp only at H
    have A8 := Ad_.mk A80
    clear A80
    by_cases c9 : t737 = true
    rotate_left
    ·
     replace c9 := Bool.eq_false_iff.mpr c9
     subst c9
     have H1 : (spec_BinderOf.j0 k l0 a1 true (-1) (-1)) = some (r1, r2) := by rw [if_neg (show ¬ (false = true) by decide)] at H; exact H
     clear H
     have H := H1
     clear H1
     have H' := Ad_.mk H
     clear H
     go_wp2_with (first | (go_at_call 49; (with_reducible refine (spec_NodesOk.calls k _ _ l0 false _ ?side1 ?side2 A8.out).mono ?_); (case side1 => exact Kd.C_below HR0.out (Bp_ HB.out GE735.out GE736.out)); (case side2 => exact HC0.out); rintro e w16 ⟨rfl, hb⟩; have n0_ := Ad_.mk (blk_below (g := gb735) (o := .cells #[.int .i64 0, .int .i64 0] 59 (0, 0)) (by (with_reducible repeat (first | refine kN_ ?_ _ | refine k1_ ?_ | refine kA_ ?_ _)); refine blk_far ?_ NB735_736.out _; (with_reducible repeat (first | refine kN_ ?_ _ | refine k1_ ?_ | refine kA_ ?_ _)); refine blk_far ?_ NB735_736.out _; (with_reducible repeat (first | refine kN_ ?_ _ | refine k1_ ?_ | refine kA_ ?_ _)); exact BK735.out) hb); have n1_ := Ad_.mk (blk_below (g := gb736) (o := .cells #[.int .i64 (-1), .int .i64 (-1)] 59 (0, 0)) (by (with_reducible repeat (first | refine kN_ ?_ _ | refine k1_ ?_ | refine kA_ ?_ _)); refine blk_put (cs := #[.int .i64 (-1), .int .i64 0]) ?_ 1 _ rfl; (with_reducible repeat (first | refine kN_ ?_ _ | refine k1_ ?_ | refine kA_ ?_ _)); refine blk_put (cs := #[.int .i64 0, .int .i64 0]) ?_ 0 _ rfl; (with_reducible repeat (first | refine kN_ ?_ _ | refine k1_ ?_ | refine kA_ ?_ _)); exact BK736.out) hb); have n2_ := Ad_.mk (bP_ (Bp_ HB.out GE735.out GE736.out) hb); clear BK735; clear BK736; clear HB; have BK735 := n0_; have BK736 := n1_; have HB := n2_; clear n0_ n1_ n2_; (try clear hb)))
     repeat (go_quiet (first | (go_at_call 49; (with_reducible refine (spec_NodesOk.calls k _ _ l0 false _ ?side1 ?side2 A8.out).mono ?_); (case side1 => exact Kd.C_below HR0.out (Bp_ HB.out GE735.out GE736.out)); (case side2 => exact HC0.out); rintro e w16 ⟨rfl, hb⟩; have n0_ := Ad_.mk (blk_below (g := gb735) (o := .cells #[.int .i64 0, .int .i64 0] 59 (0, 0)) (by (with_reducible repeat (first | refine kN_ ?_ _ | refine k1_ ?_ | refine kA_ ?_ _)); refine blk_far ?_ NB735_736.out _; (with_reducible repeat (first | refine kN_ ?_ _ | refine k1_ ?_ | refine kA_ ?_ _)); refine blk_far ?_ NB735_736.out _; (with_reducible repeat (first | refine kN_ ?_ _ | refine k1_ ?_ | refine kA_ ?_ _)); exact BK735.out) hb); have n1_ := Ad_.mk (blk_below (g := gb736) (o := .cells #[.int .i64 (-1), .int .i64 (-1)] 59 (0, 0)) (by (with_reducible repeat (first | refine kN_ ?_ _ | refine k1_ ?_ | refine kA_ ?_ _)); refine blk_put (cs := #[.int .i64 (-1), .int .i64 0]) ?_ 1 _ rfl; (with_reducible repeat (first | refine kN_ ?_ _ | refine k1_ ?_ | refine kA_ ?_ _)); refine blk_put (cs := #[.int .i64 0, .int .i64 0]) ?_ 0 _ rfl; (with_reducible repeat (first | refine kN_ ?_ _ | refine k1_ ?_ | refine kA_ ?_ _)); exact BK736.out) hb); have n2_ := Ad_.mk (bP_ (Bp_ HB.out GE735.out GE736.out) hb); clear BK735; clear BK736; clear HB; have BK735 := n0_; have BK736 := n1_; have HB := n2_; clear n0_ n1_ n2_; (try clear hb))); try go_wp2_with (first | (go_at_call 49; (with_reducible refine (spec_NodesOk.calls k _ _ l0 false _ ?side1 ?side2 A8.out).mono ?_); (case side1 => exact Kd.C_below HR0.out (Bp_ HB.out GE735.out GE736.out)); (case side2 => exact HC0.out); rintro e w16 ⟨rfl, hb⟩; have n0_ := Ad_.mk (blk_below (g := gb735) (o := .cells #[.int .i64 0, .int .i64 0] 59 (0, 0)) (by (with_reducible repeat (first | refine kN_ ?_ _ | refine k1_ ?_ | refine kA_ ?_ _)); refine blk_far ?_ NB735_736.out _; (with_reducible repeat (first | refine kN_ ?_ _ | refine k1_ ?_ | refine kA_ ?_ _)); refine blk_far ?_ NB735_736.out _; (with_reducible repeat (first | refine kN_ ?_ _ | refine k1_ ?_ | refine kA_ ?_ _)); exact BK735.out) hb); have n1_ := Ad_.mk (blk_below (g := gb736) (o := .cells #[.int .i64 (-1), .int .i64 (-1)] 59 (0, 0)) (by (with_reducible repeat (first | refine kN_ ?_ _ | refine k1_ ?_ | refine kA_ ?_ _)); refine blk_put (cs := #[.int .i64 (-1), .int .i64 0]) ?_ 1 _ rfl; (with_reducible repeat (first | refine kN_ ?_ _ | refine k1_ ?_ | refine kA_ ?_ _)); refine blk_put (cs := #[.int .i64 0, .int .i64 0]) ?_ 0 _ rfl; (with_reducible repeat (first | refine kN_ ?_ _ | refine k1_ ?_ | refine kA_ ?_ _)); exact BK736.out) hb); have n2_ := Ad_.mk (bP_ (Bp_ HB.out GE735.out GE736.out) hb); clear BK735; clear BK736; clear HB; have BK735 := n0_; have BK736 := n1_; have HB := n2_; clear n0_ n1_ n2_; (try clear hb))))
     go_meet
     case rel => exact ⟨_, (true), fs_, H', ⟨by first | omega | exact Nat.le_refl _⟩, ⟨Ko_ BK735.out⟩, ⟨Ko_ BK736.out⟩, ⟨Bp_ HB.out GE735.out GE736.out⟩⟩
    subst c9
    have H1 := H
    rw [if_pos rfl] at H1
    clear H
    have H := H1
    clear H1
    replace H := Option.bind_eq_some_iff.mp H
    obtain ⟨t738, A100, H⟩ := H
    try dsimp only at H
    have A10 := Ad_.mk A100
    clear A100
    by_cases c11 : t738 = true
    rotate_left
    ·
     replace c11 := Bool.eq_false_iff.mpr c11
     subst c11
     have H1 : (spec_BinderOf.j0 k l0 a1 true (-1) (-1)) = some (r1, r2) := by rw [if_neg (show ¬ (false = true) by decide)] at H; exact H
     clear H
     have H := H1
     clear H1
     have H' := Ad_.mk H
     clear H
     go_wp2_with (first | (go_at_call 49; (with_reducible refine (spec_NodesOk.calls k _ _ l0 true _ ?side1 ?side2 A8.out).mono ?_); (case side1 => exact Kd.C_below HR0.out (Bp_ HB.out GE735.out GE736.out)); (case side2 => exact HC0.out); rintro e w15 ⟨rfl, hb⟩; have n0_ := Ad_.mk (blk_below (g := gb735) (o := .cells #[.int .i64 0, .int .i64 0] 59 (0, 0)) (by (with_reducible repeat (first | refine kN_ ?_ _ | refine k1_ ?_ | refine kA_ ?_ _)); refine blk_far ?_ NB735_736.out _; (with_reducible repeat (first | refine kN_ ?_ _ | refine k1_ ?_ | refine kA_ ?_ _)); refine blk_far ?_ NB735_736.out _; (with_reducible repeat (first | refine kN_ ?_ _ | refine k1_ ?_ | refine kA_ ?_ _)); exact BK735.out) hb); have n1_ := Ad_.mk (blk_below (g := gb736) (o := .cells #[.int .i64 (-1), .int .i64 (-1)] 59 (0, 0)) (by (with_reducible repeat (first | refine kN_ ?_ _ | refine k1_ ?_ | refine kA_ ?_ _)); refine blk_put (cs := #[.int .i64 (-1), .int .i64 0]) ?_ 1 _ rfl; (with_reducible repeat (first | refine kN_ ?_ _ | refine k1_ ?_ | refine kA_ ?_ _)); refine blk_put (cs := #[.int .i64 0, .int .i64 0]) ?_ 0 _ rfl; (with_reducible repeat (first | refine kN_ ?_ _ | refine k1_ ?_ | refine kA_ ?_ _)); exact BK736.out) hb); have n2_ := Ad_.mk (bP_ (Bp_ HB.out GE735.out GE736.out) hb); clear BK735; clear BK736; clear HB; have BK735 := n0_; have BK736 := n1_; have HB := n2_; clear n0_ n1_ n2_; (try clear hb)) | (go_at_call 68; (with_reducible refine (spec_l1In.calls a1 0 (wrap64 ((l0.length : Int) - 1)) false _ A10.out).mono ?_); rintro e w' ⟨rfl, ⟨nd, rfl⟩⟩; (try first | exact ⟨rfl, _, World.drewN_drewN _ _ _⟩ | exact ⟨rfl, _, Eq.trans (World.drewN_drewN _ _ _) (congrArg (World.drewN _) (Nat.add_assoc _ _ _))⟩)))
     repeat (go_quiet (first | (go_at_call 49; (with_reducible refine (spec_NodesOk.calls k _ _ l0 true _ ?side1 ?side2 A8.out).mono ?_); (case side1 => exact Kd.C_below HR0.out (Bp_ HB.out GE735.out GE736.out)); (case side2 => exact HC0.out); rintro e w15 ⟨rfl, hb⟩; have n0_ := Ad_.mk (blk_below (g := gb735) (o := .cells #[.int .i64 0, .int .i64 0] 59 (0, 0)) (by (with_reducible repeat (first | refine kN_ ?_ _ | refine k1_ ?_ | refine kA_ ?_ _)); refine blk_far ?_ NB735_736.out _; (with_reducible repeat (first | refine kN_ ?_ _ | refine k1_ ?_ | refine kA_ ?_ _)); refine blk_far ?_ NB735_736.out _; (with_reducible repeat (first | refine kN_ ?_ _ | refine k1_ ?_ | refine kA_ ?_ _)); exact BK735.out) hb); have n1_ := Ad_.mk (blk_below (g := gb736) (o := .cells #[.int .i64 (-1), .int .i64 (-1)] 59 (0, 0)) (by (with_reducible repeat (first | refine kN_ ?_ _ | refine k1_ ?_ | refine kA_ ?_ _)); refine blk_put (cs := #[.int .i64 (-1), .int .i64 0]) ?_ 1 _ rfl; (with_reducible repeat (first | refine kN_ ?_ _ | refine k1_ ?_ | refine kA_ ?_ _)); refine blk_put (cs := #[.int .i64 0, .int .i64 0]) ?_ 0 _ rfl; (with_reducible repeat (first | refine kN_ ?_ _ | refine k1_ ?_ | refine kA_ ?_ _)); exact BK736.out) hb); have n2_ := Ad_.mk (bP_ (Bp_ HB.out GE735.out GE736.out) hb); clear BK735; clear BK736; clear HB; have BK735 := n0_; have BK736 := n1_; have HB := n2_; clear n0_ n1_ n2_; (try clear hb)) | (go_at_call 68; (with_reducible refine (spec_l1In.calls a1 0 (wrap64 ((l0.length : Int) - 1)) false _ A10.out).mono ?_); rintro e w' ⟨rfl, ⟨nd, rfl⟩⟩; (try first | exact ⟨rfl, _, World.drewN_drewN _ _ _⟩ | exact ⟨rfl, _, Eq.trans (World.drewN_drewN _ _ _) (congrArg (World.drewN _) (Nat.add_assoc _ _ _))⟩))); try go_wp2_with (first | (go_at_call 49; (with_reducible refine (spec_NodesOk.calls k _ _ l0 true _ ?side1 ?side2 A8.out).mono ?_); (case side1 => exact Kd.C_below HR0.out (Bp_ HB.out GE735.out GE736.out)); (case side2 => exact HC0.out); rintro e w15 ⟨rfl, hb⟩; have n0_ := Ad_.mk (blk_below (g := gb735) (o := .cells #[.int .i64 0, .int .i64 0] 59 (0, 0)) (by (with_reducible repeat (first | refine kN_ ?_ _ | refine k1_ ?_ | refine kA_ ?_ _)); refine blk_far ?_ NB735_736.out _; (with_reducible repeat (first | refine kN_ ?_ _ | refine k1_ ?_ | refine kA_ ?_ _)); refine blk_far ?_ NB735_736.out _; (with_reducible repeat (first | refine kN_ ?_ _ | refine k1_ ?_ | refine kA_ ?_ _)); exact BK735.out) hb); have n1_ := Ad_.mk (blk_below (g := gb736) (o := .cells #[.int .i64 (-1), .int .i64 (-1)] 59 (0, 0)) (by (with_reducible repeat (first | refine kN_ ?_ _ | refine k1_ ?_ | refine kA_ ?_ _)); refine blk_put (cs := #[.int .i64 (-1), .int .i64 0]) ?_ 1 _ rfl; (with_reducible repeat (first | refine kN_ ?_ _ | refine k1_ ?_ | refine kA_ ?_ _)); refine blk_put (cs := #[.int .i64 0, .int .i64 0]) ?_ 0 _ rfl; (with_reducible repeat (first | refine kN_ ?_ _ | refine k1_ ?_ | refine kA_ ?_ _)); exact BK736.out) hb); have n2_ := Ad_.mk (bP_ (Bp_ HB.out GE735.out GE736.out) hb); clear BK735; clear BK736; clear HB; have BK735 := n0_; have BK736 := n1_; have HB := n2_; clear n0_ n1_ n2_; (try clear hb)) | (go_at_call 68; (with_reducible refine (spec_l1In.calls a1 0 (wrap64 ((l0.length : Int) - 1)) false _ A10.out).mono ?_); rintro e w' ⟨rfl, ⟨nd, rfl⟩⟩; (try first | exact ⟨rfl, _, World.drewN_drewN _ _ _⟩ | exact ⟨rfl, _, Eq.trans (World.drewN_drewN _ _ _) (congrArg (World.drewN _) (Nat.add_assoc _ _ _))⟩))))
     go_meet
     case rel => exact ⟨_, (true), fs_, H', ⟨by first | omega | exact Nat.le_refl _⟩, ⟨Ko_ BK735.out⟩, ⟨Ko_ BK736.out⟩, ⟨Bp_ HB.out GE735.out GE736.out⟩⟩
    subst c11
    have H1 := H
    rw [if_pos rfl] at H1
    clear H
    have H := H1
    clear H1
    by_cases c12 : 0 ≤ a1
    rotate_left
    ·
     rw [if_neg c12] at H
     exact absurd H (by simp)
    rw [if_pos c12] at H
    have c12b0 := decide_eq_true c12
    clear c12
    (first | rw [c12b0] | (simp only [i64_w, i32_w]; rw [c12b0]) | skip)
    by_cases c13 : a1 < (l0.length : Int)
    rotate_left
    ·
     rw [if_neg c13] at H
     exact absurd H (by simp)
    rw [if_pos c13] at H
    have c13b0 := decide_eq_true c13
    clear c13
    have H' := Ad_.mk H
    clear H
    go_wp2_with (first | (go_at_call 49; (with_reducible refine (spec_NodesOk.calls k _ _ l0 true _ ?side1 ?side2 A8.out).mono ?_); (case side1 => exact Kd.C_below HR0.out (Bp_ HB.out GE735.out GE736.out)); (case side2 => exact HC0.out); rintro e w14 ⟨rfl, hb⟩; have n0_ := Ad_.mk (blk_below (g := gb735) (o := .cells #[.int .i64 0, .int .i64 0] 59 (0, 0)) (by (with_reducible repeat (first | refine kN_ ?_ _ | refine k1_ ?_ | refine kA_ ?_ _)); refine blk_far ?_ NB735_736.out _; (with_reducible repeat (first | refine kN_ ?_ _ | refine k1_ ?_ | refine kA_ ?_ _)); refine blk_far ?_ NB735_736.out _; (with_reducible repeat (first | refine kN_ ?_ _ | refine k1_ ?_ | refine kA_ ?_ _)); exact BK735.out) hb); have n1_ := Ad_.mk (blk_below (g := gb736) (o := .cells #[.int .i64 (-1), .int .i64 (-1)] 59 (0, 0)) (by (with_reducible repeat (first | refine kN_ ?_ _ | refine k1_ ?_ | refine kA_ ?_ _)); refine blk_put (cs := #[.int .i64 (-1), .int .i64 0]) ?_ 1 _ rfl; (with_reducible repeat (first | refine kN_ ?_ _ | refine k1_ ?_ | refine kA_ ?_ _)); refine blk_put (cs := #[.int .i64 0, .int .i64 0]) ?_ 0 _ rfl; (with_reducible repeat (first | refine kN_ ?_ _ | refine k1_ ?_ | refine kA_ ?_ _)); exact BK736.out) hb); have n2_ := Ad_.mk (bP_ (Bp_ HB.out GE735.out GE736.out) hb); clear BK735; clear BK736; clear HB; have BK735 := n0_; have BK736 := n1_; have HB := n2_; clear n0_ n1_ n2_; (try clear hb)) | (go_at_call 68; (with_reducible refine (spec_l1In.calls a1 0 (wrap64 ((l0.length : Int) - 1)) true _ A10.out).mono ?_); rintro e w' ⟨rfl, ⟨nd, rfl⟩⟩; (try first | exact ⟨rfl, _, World.drewN_drewN _ _ _⟩ | exact ⟨rfl, _, Eq.trans (World.drewN_drewN _ _ _) (congrArg (World.drewN _) (Nat.add_assoc _ _ _))⟩); have p739 : 0 ≤ (a1 : Int) := od_; have q739 : a1 < (l0.length : Int) := od_; obtain ⟨ad739, e739, hx739_0, hx739_1, hx739_2, hx739_3, hx739_4, hx739_5, hx739_6⟩ := at_T55 HR0.out a1 p739 q739; cases e739; replace hx739_0 := pB_ HB.out hx739_0; replace hx739_1 := pB_ HB.out hx739_1; replace hx739_2 := pB_ HB.out hx739_2; replace hx739_3 := pB_ HB.out hx739_3; replace hx739_4 := pB_ HB.out hx739_4; replace hx739_5 := pB_ HB.out hx739_5; replace hx739_6 := pB_ HB.out hx739_6; replace p739 := eq_true p739; replace q739 := eq_true q739))
    repeat (go_quiet (first | (go_at_call 49; (with_reducible refine (spec_NodesOk.calls k _ _ l0 true _ ?side1 ?side2 A8.out).mono ?_); (case side1 => exact Kd.C_below HR0.out (Bp_ HB.out GE735.out GE736.out)); (case side2 => exact HC0.out); rintro e w14 ⟨rfl, hb⟩; have n0_ := Ad_.mk (blk_below (g := gb735) (o := .cells #[.int .i64 0, .int .i64 0] 59 (0, 0)) (by (with_reducible repeat (first | refine kN_ ?_ _ | refine k1_ ?_ | refine kA_ ?_ _)); refine blk_far ?_ NB735_736.out _; (with_reducible repeat (first | refine kN_ ?_ _ | refine k1_ ?_ | refine kA_ ?_ _)); refine blk_far ?_ NB735_736.out _; (with_reducible repeat (first | refine kN_ ?_ _ | refine k1_ ?_ | refine kA_ ?_ _)); exact BK735.out) hb); have n1_ := Ad_.mk (blk_below (g := gb736) (o := .cells #[.int .i64 (-1), .int .i64 (-1)] 59 (0, 0)) (by (with_reducible repeat (first | refine kN_ ?_ _ | refine k1_ ?_ | refine kA_ ?_ _)); refine blk_put (cs := #[.int .i64 (-1), .int .i64 0]) ?_ 1 _ rfl; (with_reducible repeat (first | refine kN_ ?_ _ | refine k1_ ?_ | refine kA_ ?_ _)); refine blk_put (cs := #[.int .i64 0, .int .i64 0]) ?_ 0 _ rfl; (with_reducible repeat (first | refine kN_ ?_ _ | refine k1_ ?_ | refine kA_ ?_ _)); exact BK736.out) hb); have n2_ := Ad_.mk (bP_ (Bp_ HB.out GE735.out GE736.out) hb); clear BK735; clear BK736; clear HB; have BK735 := n0_; have BK736 := n1_; have HB := n2_; clear n0_ n1_ n2_; (try clear hb)) | (go_at_call 68; (with_reducible refine (spec_l1In.calls a1 0 (wrap64 ((l0.length : Int) - 1)) true _ A10.out).mono ?_); rintro e w' ⟨rfl, ⟨nd, rfl⟩⟩; (try first | exact ⟨rfl, _, World.drewN_drewN _ _ _⟩ | exact ⟨rfl, _, Eq.trans (World.drewN_drewN _ _ _) (congrArg (World.drewN _) (Nat.add_assoc _ _ _))⟩); have p739 : 0 ≤ (a1 : Int) := od_; have q739 : a1 < (l0.length : Int) := od_; obtain ⟨ad739, e739, hx739_0, hx739_1, hx739_2, hx739_3, hx739_4, hx739_5, hx739_6⟩ := at_T55 HR0.out a1 p739 q739; cases e739; replace hx739_0 := pB_ HB.out hx739_0; replace hx739_1 := pB_ HB.out hx739_1; replace hx739_2 := pB_ HB.out hx739_2; replace hx739_3 := pB_ HB.out hx739_3; replace hx739_4 := pB_ HB.out hx739_4; replace hx739_5 := pB_ HB.out hx739_5; replace hx739_6 := pB_ HB.out hx739_6; replace p739 := eq_true p739; replace q739 := eq_true q739)); try go_wp2_with (first | (go_at_call 49; (with_reducible refine (spec_NodesOk.calls k _ _ l0 true _ ?side1 ?side2 A8.out).mono ?_); (case side1 => exact Kd.C_below HR0.out (Bp_ HB.out GE735.out GE736.out)); (case side2 => exact HC0.out); rintro e w14 ⟨rfl, hb⟩; have n0_ := Ad_.mk (blk_below (g := gb735) (o := .cells #[.int .i64 0, .int .i64 0] 59 (0, 0)) (by (with_reducible repeat (first | refine kN_ ?_ _ | refine k1_ ?_ | refine kA_ ?_ _)); refine blk_far ?_ NB735_736.out _; (with_reducible repeat (first | refine kN_ ?_ _ | refine k1_ ?_ | refine kA_ ?_ _)); refine blk_far ?_ NB735_736.out _; (with_reducible repeat (first | refine kN_ ?_ _ | refine k1_ ?_ | refine kA_ ?_ _)); exact BK735.out) hb); have n1_ := Ad_.mk (blk_below (g := gb736) (o := .cells #[.int .i64 (-1), .int .i64 (-1)] 59 (0, 0)) (by (with_reducible repeat (first | refine kN_ ?_ _ | refine k1_ ?_ | refine kA_ ?_ _)); refine blk_put (cs := #[.int .i64 (-1), .int .i64 0]) ?_ 1 _ rfl; (with_reducible repeat (first | refine kN_ ?_ _ | refine k1_ ?_ | refine kA_ ?_ _)); refine blk_put (cs := #[.int .i64 0, .int .i64 0]) ?_ 0 _ rfl; (with_reducible repeat (first | refine kN_ ?_ _ | refine k1_ ?_ | refine kA_ ?_ _)); exact BK736.out) hb); have n2_ := Ad_.mk (bP_ (Bp_ HB.out GE735.out GE736.out) hb); clear BK735; clear BK736; clear HB; have BK735 := n0_; have BK736 := n1_; have HB := n2_; clear n0_ n1_ n2_; (try clear hb)) | (go_at_call 68; (with_reducible refine (spec_l1In.calls a1 0 (wrap64 ((l0.length : Int) - 1)) true _ A10.out).mono ?_); rintro e w' ⟨rfl, ⟨nd, rfl⟩⟩; (try first | exact ⟨rfl, _, World.drewN_drewN _ _ _⟩ | exact ⟨rfl, _, Eq.trans (World.drewN_drewN _ _ _) (congrArg (World.drewN _) (Nat.add_assoc _ _ _))⟩); have p739 : 0 ≤ (a1 : Int) := od_; have q739 : a1 < (l0.length : Int) := od_; obtain ⟨ad739, e739, hx739_0, hx739_1, hx739_2, hx739_3, hx739_4, hx739_5, hx739_6⟩ := at_T55 HR0.out a1 p739 q739; cases e739; replace hx739_0 := pB_ HB.out hx739_0; replace hx739_1 := pB_ HB.out hx739_1; replace hx739_2 := pB_ HB.out hx739_2; replace hx739_3 := pB_ HB.out hx739_3; replace hx739_4 := pB_ HB.out hx739_4; replace hx739_5 := pB_ HB.out hx739_5; replace hx739_6 := pB_ HB.out hx739_6; replace p739 := eq_true p739; replace q739 := eq_true q739)))
    go_meet
    case rel => exact ⟨_, ((((rd_T55 l0 a1).f0) != 1)), fs_, H', ⟨by first | omega | exact Nat.le_refl _⟩, ⟨Ko_ BK735.out⟩, ⟨Ko_ BK736.out⟩, ⟨Bp_ HB.out GE735.out GE736.out⟩⟩
  case rest =>
    clear HC3
    try clear p2
    try clear p6
    try clear p7
    try clear q7
    try clear hx7
    try clear c12b0
    try clear c13b0
    try clear hcz7_0 hcz7_1
    try clear hfz7_0 hfz7_1
    try clear hx739_0
    try clear hx739_1
    try clear hx739_2
    try clear hx739_3
    try clear hx739_4
    try clear hx739_5
    try clear hx739_6
    try clear p739
    try clear q739
    obtain ⟨kq, x30_2, rfl, HA, HJ2, BK735, BK736, HB⟩ := hcut
    cases kq with
    | zero => exact absurd HA.out (by simp [spec_BinderOf.j0])
    | succ kj2 =>
      have H := HA.out
      clear HA
      simp only [spec_BinderOf.j0] at H
      by_cases c17 : x30_2 = true
      ·
       subst c17
       have H1 := H
       rw [if_pos rfl] at H1
       clear H
       have H := H1
       clear H1
       simp only [Option.some.injEq, Prod.mk.injEq] at H
       obtain ⟨rfl, rfl⟩ := H
       have hnb18 := NB736_735.out
       have hnc18 := NB735_736.out
       obtain ⟨hcz19_0, hcz19_1⟩ := cells2_ BK736.out
       obtain ⟨hfz19_0, hfz19_1⟩ := froz2_ BK736.out
       obtain ⟨hcz20_0, hcz20_1⟩ := cells2_ BK735.out
       obtain ⟨hfz20_0, hfz20_1⟩ := froz2_ BK735.out
       go_wp2
       repeat (go_quiet (fail); try go_wp2)
       refine bodyPost_ret (results_cell_row rfl _ _ gb735 59 #[.int .i64 (-1), .int .i64 (-1)] (0, 0) _ rfl (by (with_reducible repeat (first | refine kN_ ?_ _ | refine k1_ ?_ | refine kA_ ?_ _)); refine blk_put (cs := #[.int .i64 (-1), .int .i64 0]) ?_ 1 _ rfl; (with_reducible repeat (first | refine kN_ ?_ _ | refine k1_ ?_ | refine kA_ ?_ _)); refine blk_put (cs := #[.int .i64 0, .int .i64 0]) ?_ 0 _ rfl; (with_reducible repeat (first | refine kN_ ?_ _ | refine k1_ ?_ | refine kA_ ?_ _)); exact BK735.out) Tryd.underlying59 rfl (by kernel_rfl)) rfl ?_
       exact ⟨er_, Bp_ HB.out GE735.out GE736.out⟩
      replace c17 := Bool.eq_false_iff.mpr c17
      subst c17
      have H1 : ((spec_ParentOf.f kj2 l0 a1).bind fun t740 => (spec_BinderOf.l0 kj2 l0 a1 a1 t740 (-1) (-1))) = some (r1, r2) := by rw [if_neg (show ¬ (false = true) by decide)] at H; exact H
      clear H
      have H := H1
      clear H1
      replace H := Option.bind_eq_some_iff.mp H
      obtain ⟨t740, A210, H⟩ := H
      try dsimp only at H
      have A21 := Ad_.mk A210
      clear A210
      have H' := Ad_.mk H
      clear H
      go_wp2_with (first | (go_at_call 69; (with_reducible refine (spec_ParentOf.calls kj2 _ _ l0 a1 t740 _ ?side1 ?side2 A21.out).mono ?_); (case side1 => exact Cb_ HR0.out HB.out); (case side2 => exact HC0.out); rintro e w22 ⟨rfl, hb⟩; replace BK735 := Ad_.mk (blk_below (g := gb735) (o := .cells #[.int .i64 0, .int .i64 0] 59 (0, 0)) (Ko_ BK735.out) hb); replace BK736 := Ad_.mk (blk_below (g := gb736) (o := .cells #[.int .i64 (-1), .int .i64 (-1)] 59 (0, 0)) (Ko_ BK736.out) hb); replace HB := Ad_.mk (bP_ (Bp_ HB.out GE735.out GE736.out) hb); (try clear hb)))
      repeat (go_quiet (first | (go_at_call 69; (with_reducible refine (spec_ParentOf.calls kj2 _ _ l0 a1 t740 _ ?side1 ?side2 A21.out).mono ?_); (case side1 => exact Cb_ HR0.out HB.out); (case side2 => exact HC0.out); rintro e w22 ⟨rfl, hb⟩; replace BK735 := Ad_.mk (blk_below (g := gb735) (o := .cells #[.int .i64 0, .int .i64 0] 59 (0, 0)) (Ko_ BK735.out) hb); replace BK736 := Ad_.mk (blk_below (g := gb736) (o := .cells #[.int .i64 (-1), .int .i64 (-1)] 59 (0, 0)) (Ko_ BK736.out) hb); replace HB := Ad_.mk (bP_ (Bp_ HB.out GE735.out GE736.out) hb); (try clear hb))); try go_wp2_with (first | (go_at_call 69; (with_reducible refine (spec_ParentOf.calls kj2 _ _ l0 a1 t740 _ ?side1 ?side2 A21.out).mono ?_); (case side1 => exact Cb_ HR0.out HB.out); (case side2 => exact HC0.out); rintro e w22 ⟨rfl, hb⟩; replace BK735 := Ad_.mk (blk_below (g := gb735) (o := .cells #[.int .i64 0, .int .i64 0] 59 (0, 0)) (Ko_ BK735.out) hb); replace BK736 := Ad_.mk (blk_below (g := gb736) (o := .cells #[.int .i64 (-1), .int .i64 (-1)] 59 (0, 0)) (Ko_ BK736.out) hb); replace HB := Ad_.mk (bP_ (Bp_ HB.out GE735.out GE736.out) hb); (try clear hb))))
      go_loopg [6, 7] kj2 (fun kq v6 v7 w' => ∃ (x6_2 : Int) (x7_2 : Int) (x736000_2 : Int) (x736001_2 : Int), v6 = .int .i64 x6_2 ∧ v7 = .int .i64 x7_2 ∧ Ad_ (spec_BinderOf.l0 kq l0 a1 x6_2 x7_2 (-1) (-1) = some (r1, r2)) ∧ Ad_ (kq ≤ kj2) ∧ Ad_ (w'.heap[gb735]? = some (.cells #[.int .i64 x736000_2, .int .i64 x736001_2] 59 (0, 0))) ∧ Ad_ (w'.heap[gb736]? = some (.cells #[.int .i64 (-1), .int .i64 (-1)] 59 (0, 0))) ∧ Ad_ (Below w.heap.size w w'))
      case atStart => exact ⟨(a1), (t740), (0), (0), fs_, fs_, H', ⟨Nat.le_refl _⟩, ⟨Ko_ BK735.out⟩, ⟨Ko_ BK736.out⟩, ⟨Bp_ HB.out GE735.out GE736.out⟩⟩
      case round =>
        clear H'
        try clear p2
        try clear p6
        try clear p7
        try clear q7
        try clear hx7
        try clear c12b0
        try clear c13b0
        try clear hcz19_0 hcz19_1
        try clear hcz20_0 hcz20_1
        try clear hcz7_0 hcz7_1
        try clear hfz19_0 hfz19_1
        try clear hfz20_0 hfz20_1
        try clear hfz7_0 hfz7_1
        try clear hx739_0
        try clear hx739_1
        try clear hx739_2
        try clear hx739_3
        try clear hx739_4
        try clear hx739_5
        try clear hx739_6
        try clear p2
        try clear p6
        try clear p7
        try clear p739
        try clear q7
        try clear q739
        obtain ⟨x6_2, x7_2, x736000_2, x736001_2, rfl, rfl, HA, HK2, BK735, BK736, HB⟩ := hrel
        cases gk with
        | zero => exact absurd HA.out (by simp [spec_BinderOf.l0])
        | succ k2 =>
          have H := HA.out
          clear HA
          simp only [spec_BinderOf.l0] at H
          by_cases c23 : x7_2 ≥ 0
          rotate_left
          ·
           rw [if_neg c23] at H
           have c23b0 := decide_eq_false c23
           clear c23
           simp only [Option.some.injEq, Prod.mk.injEq] at H
           obtain ⟨rfl, rfl⟩ := H
           have hnb42 := NB736_735.out
           have hnc42 := NB735_736.out
           obtain ⟨hcz43_0, hcz43_1⟩ := cells2_ BK736.out
           obtain ⟨hfz43_0, hfz43_1⟩ := froz2_ BK736.out
           obtain ⟨hcz44_0, hcz44_1⟩ := cells2_ BK735.out
           obtain ⟨hfz44_0, hfz44_1⟩ := froz2_ BK735.out
           go_wp2
           repeat (go_quiet (fail); try go_wp2)
           refine bodyPost_ret (results_cell_row rfl _ _ gb735 59 #[.int .i64 (-1), .int .i64 (-1)] (0, 0) _ rfl (by (with_reducible repeat (first | refine kN_ ?_ _ | refine k1_ ?_ | refine kA_ ?_ _)); refine blk_put (cs := #[.int .i64 (-1), .int .i64 x736001_2]) ?_ 1 _ rfl; (with_reducible repeat (first | refine kN_ ?_ _ | refine k1_ ?_ | refine kA_ ?_ _)); refine blk_put (cs := #[.int .i64 x736000_2, .int .i64 x736001_2]) ?_ 0 _ rfl; (with_reducible repeat (first | refine kN_ ?_ _ | refine k1_ ?_ | refine kA_ ?_ _)); exact BK735.out) Tryd.underlying59 rfl (by kernel_rfl)) rfl ?_
           exact ⟨er_, Bp_ HB.out GE735.out GE736.out⟩
          rw [if_pos c23] at H
          have c23b0 := decide_eq_true c23
          clear c23
          by_cases c24 : 0 ≤ x7_2
          rotate_left
          ·
           rw [if_neg c24] at H
           exact absurd H (by simp)
          rw [if_pos c24] at H
          have c24b0 := decide_eq_true c24
          clear c24
          by_cases c25 : x7_2 < (l0.length : Int)
          rotate_left
          ·
           rw [if_neg c25] at H
           exact absurd H (by simp)
          rw [if_pos c25] at H
          have c25b0 := decide_eq_true c25
          clear c25
          replace H := Option.bind_eq_some_iff.mp H
          obtain ⟨⟨t742, t745⟩, A260, H⟩ := H
          try dsimp only at H
          have A26 := Ad_.mk A260
          clear A260
          have H' := Ad_.mk H
          clear H
          have p741 : 0 ≤ (x7_2 : Int) := od_
          have q741 : x7_2 < (l0.length : Int) := od_
          obtain ⟨ad741, e741, hx741_0, hx741_1, hx741_2, hx741_3, hx741_4, hx741_5, hx741_6⟩ := at_T55 HR0.out x7_2 p741 q741
          cases e741
          replace hx741_0 := pB_ HB.out hx741_0
          replace hx741_1 := pB_ HB.out hx741_1
          replace hx741_2 := pB_ HB.out hx741_2
          replace hx741_3 := pB_ HB.out hx741_3
          replace hx741_4 := pB_ HB.out hx741_4
          replace hx741_5 := pB_ HB.out hx741_5
          replace hx741_6 := pB_ HB.out hx741_6
          replace p741 := eq_true p741
          replace q741 := eq_true q741
          go_wp2_with (first | (go_at_call 108; (with_reducible refine (spec_l6Bound.calls k2 ((rd_T55 l0 x7_2).f0) ((rd_T55 l0 x7_2).f1) ((rd_T55 l0 x7_2).f2) ((rd_T55 l0 x7_2).f3) ((rd_T55 l0 x7_2).f4) ((rd_T55 l0 x7_2).f5) ((rd_T55 l0 x7_2).f6) x6_2 t742 t745 _ A26.out).mono ?_); rintro e w27 ⟨v743, v746, rfl, ho0, ho1, hb⟩; have n0_ := Ad_.mk (Kd.R_lower ho0 (bZ_ (Bp_ HB.out GE735.out GE736.out))); have n1_ := Ad_.mk (Kd.R_lower ho1 (bZ_ (Bp_ HB.out GE735.out GE736.out))); have n2_ := Ad_.mk (blk_below (g := gb735) (o := .cells #[.int .i64 x736000_2, .int .i64 x736001_2] 59 (0, 0)) (Ko_ BK735.out) hb); have n3_ := Ad_.mk (blk_below (g := gb736) (o := .cells #[.int .i64 (-1), .int .i64 (-1)] 59 (0, 0)) (Ko_ BK736.out) hb); have n4_ := Ad_.mk (bP_ (Bp_ HB.out GE735.out GE736.out) hb); clear BK735; clear BK736; clear HB; have HO744 := n0_; have HO747 := n1_; have BK735 := n2_; have BK736 := n3_; have HB := n4_; clear n0_ n1_ n2_ n3_ n4_; (try clear hb); (try clear ho0); (try clear ho1)))
          repeat (go_quiet (first | (go_at_call 108; (with_reducible refine (spec_l6Bound.calls k2 ((rd_T55 l0 x7_2).f0) ((rd_T55 l0 x7_2).f1) ((rd_T55 l0 x7_2).f2) ((rd_T55 l0 x7_2).f3) ((rd_T55 l0 x7_2).f4) ((rd_T55 l0 x7_2).f5) ((rd_T55 l0 x7_2).f6) x6_2 t742 t745 _ A26.out).mono ?_); rintro e w27 ⟨v743, v746, rfl, ho0, ho1, hb⟩; have n0_ := Ad_.mk (Kd.R_lower ho0 (bZ_ (Bp_ HB.out GE735.out GE736.out))); have n1_ := Ad_.mk (Kd.R_lower ho1 (bZ_ (Bp_ HB.out GE735.out GE736.out))); have n2_ := Ad_.mk (blk_below (g := gb735) (o := .cells #[.int .i64 x736000_2, .int .i64 x736001_2] 59 (0, 0)) (Ko_ BK735.out) hb); have n3_ := Ad_.mk (blk_below (g := gb736) (o := .cells #[.int .i64 (-1), .int .i64 (-1)] 59 (0, 0)) (Ko_ BK736.out) hb); have n4_ := Ad_.mk (bP_ (Bp_ HB.out GE735.out GE736.out) hb); clear BK735; clear BK736; clear HB; have HO744 := n0_; have HO747 := n1_; have BK735 := n2_; have BK736 := n3_; have HB := n4_; clear n0_ n1_ n2_ n3_ n4_; (try clear hb); (try clear ho0); (try clear ho1))); try go_wp2_with (first | (go_at_call 108; (with_reducible refine (spec_l6Bound.calls k2 ((rd_T55 l0 x7_2).f0) ((rd_T55 l0 x7_2).f1) ((rd_T55 l0 x7_2).f2) ((rd_T55 l0 x7_2).f3) ((rd_T55 l0 x7_2).f4) ((rd_T55 l0 x7_2).f5) ((rd_T55 l0 x7_2).f6) x6_2 t742 t745 _ A26.out).mono ?_); rintro e w27 ⟨v743, v746, rfl, ho0, ho1, hb⟩; have n0_ := Ad_.mk (Kd.R_lower ho0 (bZ_ (Bp_ HB.out GE735.out GE736.out))); have n1_ := Ad_.mk (Kd.R_lower ho1 (bZ_ (Bp_ HB.out GE735.out GE736.out))); have n2_ := Ad_.mk (blk_below (g := gb735) (o := .cells #[.int .i64 x736000_2, .int .i64 x736001_2] 59 (0, 0)) (Ko_ BK735.out) hb); have n3_ := Ad_.mk (blk_below (g := gb736) (o := .cells #[.int .i64 (-1), .int .i64 (-1)] 59 (0, 0)) (Ko_ BK736.out) hb); have n4_ := Ad_.mk (bP_ (Bp_ HB.out GE735.out GE736.out) hb); clear BK735; clear BK736; clear HB; have HO744 := n0_; have HO747 := n1_; have BK735 := n2_; have BK736 := n3_; have HB := n4_; clear n0_ n1_ n2_ n3_ n4_; (try clear hb); (try clear ho0); (try clear ho1))))
          go_loopg [10] k2 (fun kq v10 w' => ∃ (x10_3 : Int) (x736000_3 : Int) (x736001_3 : Int), v10 = .int .i64 x10_3 ∧ Ad_ (spec_BinderOf.l1 kq l0 a1 x7_2 t742 t745 x10_3 (-1) (-1) = some (r1, r2)) ∧ Ad_ (kq ≤ k2) ∧ Ad_ (Kd.R Kd.string 9 w' w.heap.size (fun _ => True) v743 t742) ∧ Ad_ (Kd.R (Kd.int .i64) 3 w' w.heap.size (fun _ => True) v746 t745) ∧ Ad_ (w'.heap[gb735]? = some (.cells #[.int .i64 x736000_3, .int .i64 x736001_3] 59 (0, 0))) ∧ Ad_ (w'.heap[gb736]? = some (.cells #[.int .i64 (-1), .int .i64 (-1)] 59 (0, 0))) ∧ Ad_ (Below w.heap.size w w'))
          case atStart => exact ⟨(0), (x736000_2), (x736001_2), fs_, H', ⟨Nat.le_refl _⟩, ⟨Ro_ HO744.out⟩, ⟨Ro_ HO747.out⟩, ⟨Ko_ BK735.out⟩, ⟨Ko_ BK736.out⟩, ⟨Bp_ HB.out GE735.out GE736.out⟩⟩
          case round =>
            clear H'
            try clear p2
            try clear p6
            try clear p7
            try clear q7
            try clear hx7
            try clear c12b0
            try clear c13b0
            try clear c23b0
            try clear c24b0
            try clear c25b0
            try clear hcz19_0 hcz19_1
            try clear hcz20_0 hcz20_1
            try clear hcz7_0 hcz7_1
            try clear hfz19_0 hfz19_1
            try clear hfz20_0 hfz20_1
            try clear hfz7_0 hfz7_1
            try clear hx739_0
            try clear hx739_1
            try clear hx739_2
            try clear hx739_3
            try clear hx739_4
            try clear hx739_5
            try clear hx739_6
            try clear hx741_0
            try clear hx741_1
            try clear hx741_2
            try clear hx741_3
            try clear hx741_4
            try clear hx741_5
            try clear hx741_6
            try clear p2
            try clear p6
            try clear p7
            try clear p739
            try clear p741
            try clear q7
            try clear q739
            try clear q741
            obtain ⟨x10_3, x736000_3, x736001_3, rfl, HA, HK3, HO_8, HO_9, BK735, BK736, HB⟩ := hrel
            cases gk with
            | zero => exact absurd HA.out (by simp [spec_BinderOf.l1])
            | succ k3 =>
              have H := HA.out
              clear HA
              simp only [spec_BinderOf.l1] at H
              by_cases c28 : x10_3 < (t742.length : Int)
              rotate_left
              ·
               rw [if_neg c28] at H
               have c28b0 := decide_eq_false c28
               clear c28
               replace H := Option.bind_eq_some_iff.mp H
               obtain ⟨t751, A390, H⟩ := H
               try dsimp only at H
               have A39 := Ad_.mk A390
               clear A390
               have H' := Ad_.mk H
               clear H
               obtain ⟨Ao40, co40, eo40⟩ := Kd.R_slice HO_8.out
               subst eo40
               go_wp2_with (first | (go_at_call 69; (with_reducible refine (spec_ParentOf.calls k3 _ _ l0 x7_2 t751 _ ?side1 ?side2 A39.out).mono ?_); (case side1 => exact Cb_ HR0.out HB.out); (case side2 => exact HC0.out); rintro e w41 ⟨rfl, hb⟩; replace HO_8 := Ad_.mk (Rb_ HO_8.out hb); replace HO_9 := Ad_.mk (Rb_ HO_9.out hb); replace BK735 := Ad_.mk (blk_below (g := gb735) (o := .cells #[.int .i64 x736000_3, .int .i64 x736001_3] 59 (0, 0)) (Ko_ BK735.out) hb); replace BK736 := Ad_.mk (blk_below (g := gb736) (o := .cells #[.int .i64 (-1), .int .i64 (-1)] 59 (0, 0)) (Ko_ BK736.out) hb); replace HB := Ad_.mk (bP_ (Bp_ HB.out GE735.out GE736.out) hb); (try clear hb)))
               repeat (go_quiet (first | (go_at_call 69; (with_reducible refine (spec_ParentOf.calls k3 _ _ l0 x7_2 t751 _ ?side1 ?side2 A39.out).mono ?_); (case side1 => exact Cb_ HR0.out HB.out); (case side2 => exact HC0.out); rintro e w41 ⟨rfl, hb⟩; replace HO_8 := Ad_.mk (Rb_ HO_8.out hb); replace HO_9 := Ad_.mk (Rb_ HO_9.out hb); replace BK735 := Ad_.mk (blk_below (g := gb735) (o := .cells #[.int .i64 x736000_3, .int .i64 x736001_3] 59 (0, 0)) (Ko_ BK735.out) hb); replace BK736 := Ad_.mk (blk_below (g := gb736) (o := .cells #[.int .i64 (-1), .int .i64 (-1)] 59 (0, 0)) (Ko_ BK736.out) hb); replace HB := Ad_.mk (bP_ (Bp_ HB.out GE735.out GE736.out) hb); (try clear hb))); try go_wp2_with (first | (go_at_call 69; (with_reducible refine (spec_ParentOf.calls k3 _ _ l0 x7_2 t751 _ ?side1 ?side2 A39.out).mono ?_); (case side1 => exact Cb_ HR0.out HB.out); (case side2 => exact HC0.out); rintro e w41 ⟨rfl, hb⟩; replace HO_8 := Ad_.mk (Rb_ HO_8.out hb); replace HO_9 := Ad_.mk (Rb_ HO_9.out hb); replace BK735 := Ad_.mk (blk_below (g := gb735) (o := .cells #[.int .i64 x736000_3, .int .i64 x736001_3] 59 (0, 0)) (Ko_ BK735.out) hb); replace BK736 := Ad_.mk (blk_below (g := gb736) (o := .cells #[.int .i64 (-1), .int .i64 (-1)] 59 (0, 0)) (Ko_ BK736.out) hb); replace HB := Ad_.mk (bP_ (Bp_ HB.out GE735.out GE736.out) hb); (try clear hb))))
               go_roundg k3
               case measure => have := HJ2.out; have := HK2.out; have := HK3.out; omega
               case rel => exact ⟨(x7_2), (t751), (x736000_3), (x736001_3), fs_, fs_, H', ⟨by have := HJ2.out; have := HK2.out; have := HK3.out; omega⟩, ⟨Ko_ BK735.out⟩, ⟨Ko_ BK736.out⟩, ⟨Bp_ HB.out GE735.out GE736.out⟩⟩
              rw [if_pos c28] at H
              have c28b0 := decide_eq_true c28
              clear c28
              by_cases c29 : 0 ≤ x10_3
              rotate_left
              ·
               rw [if_neg c29] at H
               exact absurd H (by simp)
              rw [if_pos c29] at H
              have c29b0 := decide_eq_true c29
              clear c29
              by_cases c30 : 0 ≤ a1
              rotate_left
              ·
               rw [if_neg c30] at H
               exact absurd H (by simp)
              rw [if_pos c30] at H
              have c30b0 := decide_eq_true c30
              clear c30
              by_cases c31 : a1 < (l0.length : Int)
              rotate_left
              ·
               rw [if_neg c31] at H
               exact absurd H (by simp)
              rw [if_pos c31] at H
              have c31b0 := decide_eq_true c31
              clear c31
              by_cases c32 : (rdOf ByteArray.empty t742 x10_3).toList = ((rd_T55 l0 a1).f5).toList
              rotate_left
              ·
               rw [if_neg c32] at H
               have c32b0 : ((rdOf ByteArray.empty t742 x10_3).toList == ((rd_T55 l0 a1).f5).toList) = false := beq_eq_false_iff_ne.mpr c32
               have c32b1 : ((rdOf ByteArray.empty t742 x10_3).toList != ((rd_T55 l0 a1).f5).toList) = true := bne_iff_ne.mpr c32
               have H' := Ad_.mk H
               clear H
               obtain ⟨Ao38, co38, eo38⟩ := Kd.R_slice HO_8.out
               subst eo38
               have p748 : 0 ≤ (x10_3 : Int) := od_
               have q748 : x10_3 < (t742.length : Int) := od_
               obtain ⟨ad748, e748, hx748_0⟩ := Kd.at_string (Kd.R_reads' HO_8.out).2.2 x10_3 p748 q748
               cases e748
               replace p748 := eq_true p748
               replace q748 := eq_true q748
               have p749 : 0 ≤ (a1 : Int) := od_
               have q749 : a1 < (l0.length : Int) := od_
               obtain ⟨ad749, e749, hx749_0, hx749_1, hx749_2, hx749_3, hx749_4, hx749_5, hx749_6⟩ := at_T55 HR0.out a1 p749 q749
               obtain rfl : ad741 = ad749 := (by injection e749)
               replace hx749_0 := pB_ HB.out hx749_0
               replace hx749_1 := pB_ HB.out hx749_1
               replace hx749_2 := pB_ HB.out hx749_2
               replace hx749_3 := pB_ HB.out hx749_3
               replace hx749_4 := pB_ HB.out hx749_4
               replace hx749_5 := pB_ HB.out hx749_5
               replace hx749_6 := pB_ HB.out hx749_6
               replace p749 := eq_true p749
               replace q749 := eq_true q749
               go_wp2
               repeat (go_quiet (fail); try go_wp2)
               go_roundg k3
               case measure => have := HJ2.out; have := HK2.out; have := HK3.out; omega
               case rel => exact ⟨(wrap64 (x10_3 + 1)), (x736000_3), (x736001_3), fs_, H', ⟨by have := HJ2.out; have := HK2.out; have := HK3.out; omega⟩, ⟨Ro_ HO_8.out⟩, ⟨Ro_ HO_9.out⟩, ⟨Ko_ BK735.out⟩, ⟨Ko_ BK736.out⟩, ⟨Bp_ HB.out GE735.out GE736.out⟩⟩
              rw [if_pos c32] at H
              have c32b0 : ((rdOf ByteArray.empty t742 x10_3).toList == ((rd_T55 l0 a1).f5).toList) = true := beq_iff_eq.mpr c32
              have c32b1 : ((rdOf ByteArray.empty t742 x10_3).toList != ((rd_T55 l0 a1).f5).toList) = false := bne_eq_false_iff_eq.mpr c32
              clear c32
              by_cases c33 : x10_3 < (t745.length : Int)
              rotate_left
              ·
               rw [if_neg c33] at H
               exact absurd H (by simp)
              rw [if_pos c33] at H
              have c33b0 := decide_eq_true c33
              clear c33
              simp only [Option.some.injEq, Prod.mk.injEq] at H
              obtain ⟨rfl, rfl⟩ := H
              obtain ⟨Ao34, co34, eo34⟩ := Kd.R_slice HO_8.out
              subst eo34
              have p748 : 0 ≤ (x10_3 : Int) := od_
              have q748 : x10_3 < (t742.length : Int) := od_
              obtain ⟨ad748, e748, hx748_0⟩ := Kd.at_string (Kd.R_reads' HO_8.out).2.2 x10_3 p748 q748
              cases e748
              replace p748 := eq_true p748
              replace q748 := eq_true q748
              have p749 : 0 ≤ (a1 : Int) := od_
              have q749 : a1 < (l0.length : Int) := od_
              obtain ⟨ad749, e749, hx749_0, hx749_1, hx749_2, hx749_3, hx749_4, hx749_5, hx749_6⟩ := at_T55 HR0.out a1 p749 q749
              obtain rfl : ad741 = ad749 := (by injection e749)
              replace hx749_0 := pB_ HB.out hx749_0
              replace hx749_1 := pB_ HB.out hx749_1
              replace hx749_2 := pB_ HB.out hx749_2
              replace hx749_3 := pB_ HB.out hx749_3
              replace hx749_4 := pB_ HB.out hx749_4
              replace hx749_5 := pB_ HB.out hx749_5
              replace hx749_6 := pB_ HB.out hx749_6
              replace p749 := eq_true p749
              replace q749 := eq_true q749
              obtain ⟨Ao35, co35, eo35⟩ := Kd.R_slice HO_9.out
              subst eo35
              have p750 : 0 ≤ (x10_3 : Int) := od_
              have q750 : x10_3 < (t745.length : Int) := od_
              obtain ⟨ad750, e750, hx750_0⟩ := Kd.at_int (Kd.R_reads' HO_9.out).2.2 x10_3 p750 q750
              cases e750
              replace p750 := eq_true p750
              replace q750 := eq_true q750
              have hnb36 := NB735_736.out
              have hnc36 := NB736_735.out
              obtain ⟨hcz37_0, hcz37_1⟩ := cells2_ BK735.out
              obtain ⟨hfz37_0, hfz37_1⟩ := froz2_ BK735.out
              go_wp2
              repeat (go_quiet (fail); try go_wp2)
              refine bodyPost_ret (results_cell_row rfl _ _ gb735 59 #[.int .i64 x7_2, .int .i64 (rd t745 x10_3)] (0, 0) _ rfl (by (with_reducible repeat (first | refine kN_ ?_ _ | refine k1_ ?_ | refine kA_ ?_ _)); refine blk_put (cs := #[.int .i64 x7_2, .int .i64 x736001_3]) ?_ 1 _ rfl; (with_reducible repeat (first | refine kN_ ?_ _ | refine k1_ ?_ | refine kA_ ?_ _)); refine blk_put (cs := #[.int .i64 x736000_3, .int .i64 x736001_3]) ?_ 0 _ rfl; (with_reducible repeat (first | refine kN_ ?_ _ | refine k1_ ?_ | refine kA_ ?_ _)); exact BK735.out) Tryd.underlying59 rfl (by kernel_rfl)) rfl ?_
              exact ⟨er_, Bp_ HB.out GE735.out GE736.out⟩
end Go.Proofs.YtfmlamheflbgdaaDoor.PAll
end
section
namespace Go.Proofs.YtfmlamheflbgdaaDoor.PAll
open Go.RowKit Go.Proofs.YtfmlamheflbgdaaDoorW.PrintWords Go.Proofs.YtfmlamheflbgdaaDoorW.PrintLast Go.Proofs.YtfmlamheflbgdaaDoorW.PrintMore
attribute [local go_sem] max2_int min2_int max_two min_two max_three min_three max_four min_four
set_option linter.unusedVariables false
set_option linter.unusedSimpArgs false
def spec_l16Param.f (a0_0 : Int) (a0_1 : Int) (a0_2 : Int) (a0_3 : Int) (a0_4 : Int) (a0_5 : ByteArray) (a0_6 : ByteArray) : Option (Int) := if a0_0 = 6 then (some 1) else (some 0)
set_option maxHeartbeats 8000000 in
set_option maxRecDepth 100000 in
theorem spec_l16Param.calls (a0_0 : Int) (a0_1 : Int) (a0_2 : Int) (a0_3 : Int) (a0_4 : Int) (a0_5 : ByteArray) (a0_6 : ByteArray) (r : Int) (w : World) (h : spec_l16Param.f a0_0 a0_1 a0_2 a0_3 a0_4 a0_5 a0_6 = some r) :
    Calls Tryd.prog 84 #[.agg #[.int .i64 a0_0, .int .i64 a0_1, .int .i64 a0_2, .int .i64 a0_3, .int .i64 a0_4, .string a0_5, .string a0_6]] w fun e w' => e = .returned (.int .i64 r) ∧ Below w.heap.size w w' := by
  have hu55 := Tryd.underlying55
  have HB := Ad_.mk (Below.refl w.heap.size w)
  have H : (if a0_0 = 6 then (some 1) else (some 0)) = some r := h
  clear h
  by_cases c2 : a0_0 = 6
  rotate_left
  ·
   rw [if_neg c2] at H
   have c2b0 : (a0_0 == 6) = false := beq_eq_false_iff_ne.mpr c2
   have c2b1 : (a0_0 != 6) = true := bne_iff_ne.mpr c2
   obtain rfl := Option.some.inj H
   go_enter Tryd.func84, Tryd.ntmps84
   go_wp2_with (first | ((with_reducible refine gD_ (N := 1) rfl ?_); refine bE_ ?hg (N := 1) ?hd (cs := #[.int .i64 a0_0, .int .i64 a0_1, .int .i64 a0_2, .int .i64 a0_3, .int .i64 a0_4, .string a0_5, .string a0_6]) (t := 55) ?hr ?_; (case hd => rfl); (case hg => rfl); (case hr => first | (go_simp; done) | (go_simp; rfl)); intro gb752 hg w5 hbox hb; have n0_ := Ad_.mk (bQ_ HB.out hb); have n1_ := Ad_.mk (hbox); have n2_ := Ad_.mk ((by rw [hg]; exact (bZ_ (Bn_ HB.out)) : w.heap.size ≤ gb752)); have n3_ := Ad_.mk ((by rw [hg]; exact (bZ_ (Bn_ HB.out)) : w.heap.size ≤ gb752)); clear HB; have HB := n0_; have BK752 := n1_; have GW752 := n2_; have GE752 := n3_; clear n0_ n1_ n2_ n3_; clear hb hbox hg; obtain ⟨hcz6_0, hcz6_1, hcz6_2, hcz6_3, hcz6_4, hcz6_5, hcz6_6⟩ := cells7_ BK752.out; obtain ⟨hfz6_0, hfz6_1, hfz6_2, hfz6_3, hfz6_4, hfz6_5, hfz6_6⟩ := froz7_ BK752.out))
   go_ret
   exact ⟨er_, Bo_ HB.out GE752.out⟩
  rw [if_pos c2] at H
  have c2b0 : (a0_0 == 6) = true := beq_iff_eq.mpr c2
  have c2b1 : (a0_0 != 6) = false := bne_eq_false_iff_eq.mpr c2
  clear c2
  obtain rfl := Option.some.inj H
  go_enter Tryd.func84, Tryd.ntmps84
  go_wp2_with (first | ((with_reducible refine gD_ (N := 1) rfl ?_); refine bE_ ?hg (N := 1) ?hd (cs := #[.int .i64 a0_0, .int .i64 a0_1, .int .i64 a0_2, .int .i64 a0_3, .int .i64 a0_4, .string a0_5, .string a0_6]) (t := 55) ?hr ?_; (case hd => rfl); (case hg => rfl); (case hr => first | (go_simp; done) | (go_simp; rfl)); intro gb752 hg w3 hbox hb; have n0_ := Ad_.mk (bQ_ HB.out hb); have n1_ := Ad_.mk (hbox); have n2_ := Ad_.mk ((by rw [hg]; exact (bZ_ (Bn_ HB.out)) : w.heap.size ≤ gb752)); have n3_ := Ad_.mk ((by rw [hg]; exact (bZ_ (Bn_ HB.out)) : w.heap.size ≤ gb752)); clear HB; have HB := n0_; have BK752 := n1_; have GW752 := n2_; have GE752 := n3_; clear n0_ n1_ n2_ n3_; clear hb hbox hg; obtain ⟨hcz4_0, hcz4_1, hcz4_2, hcz4_3, hcz4_4, hcz4_5, hcz4_6⟩ := cells7_ BK752.out; obtain ⟨hfz4_0, hfz4_1, hfz4_2, hfz4_3, hfz4_4, hfz4_5, hfz4_6⟩ := froz7_ BK752.out))
  go_ret
  exact ⟨er_, Bo_ HB.out GE752.out⟩
def impl_startOf.l0 : Nat → List (S55) → Int → Option (Int)
  | 0, _, _ => none
  | k + 1, x0, x1 => if 0 ≤ x1 then (if x1 < (x0.length : Int) then ((impl_Arity.f k ((rd_T55 x0 x1).f0)).bind fun t780 => (if t780 > 0 then (impl_startOf.l0 k x0 ((rd_T55 x0 x1).f1)) else (some x1))) else (none)) else (none)
def impl_startOf.f (k : Nat) (l0 : List (S55)) (a1 : Int) : Option (Int) := impl_startOf.l0 k l0 a1
set_option maxHeartbeats 8000000 in
set_option maxRecDepth 100000 in
theorem impl_startOf.calls (k : Nat) (A0 : Option Addr) (c0 : Nat) (l0 : List (S55)) (a1 : Int) (r : Int) (w : World) (hr0 : Kd.C k55 w A0 l0.length l0) (hc0 : l0.length ≤ c0) (h : impl_startOf.f k l0 a1 = some r) :
    Calls Tryd.prog 96 #[.slice A0 l0.length c0, .int .i64 a1] w fun e w' => e = .returned (.int .i64 r) ∧ Drawn0 w w' := by
  have HR0 := Ad_.mk hr0
  have HC0 := Ad_.mk hc0
  clear hr0 hc0
  have H : (impl_startOf.l0 k l0 a1) = some r := h
  clear h
  have H' := Ad_.mk H
  clear H
  go_enter Tryd.func96, Tryd.ntmps96
  go_wp2
  go_loopg [1] k (fun kq v1 w' => ∃ (x1_1 : Int), v1 = .int .i64 x1_1 ∧ Ad_ (impl_startOf.l0 kq l0 x1_1 = some r) ∧ Ad_ (kq ≤ k) ∧ Drawn0 w w')
  case atStart => exact ⟨(a1), fs_, H', ⟨Nat.le_refl _⟩, by repeat (first | exact Drawn0.refl _ | apply Drawn0.step)⟩
  case round =>
    clear H'
    try clear p2
    obtain ⟨x1_1, rfl, HA, HK1, ⟨m1, rfl⟩⟩ := hrel
    cases gk with
    | zero => exact absurd HA.out (by simp [impl_startOf.l0])
    | succ k1 =>
      have H := HA.out
      clear HA
      simp only [impl_startOf.l0] at H
      by_cases c3 : 0 ≤ x1_1
      rotate_left
      ·
       rw [if_neg c3] at H
       exact absurd H (by simp)
      rw [if_pos c3] at H
      have c3b0 := decide_eq_true c3
      clear c3
      by_cases c4 : x1_1 < (l0.length : Int)
      rotate_left
      ·
       rw [if_neg c4] at H
       exact absurd H (by simp)
      rw [if_pos c4] at H
      have c4b0 := decide_eq_true c4
      clear c4
      replace H := Option.bind_eq_some_iff.mp H
      obtain ⟨t780, A50, H⟩ := H
      try dsimp only at H
      have A5 := Ad_.mk A50
      clear A50
      by_cases c6 : t780 > 0
      rotate_left
      ·
       rw [if_neg c6] at H
       have c6b0 := decide_eq_false c6
       clear c6
       obtain rfl := Option.some.inj H
       have p779 : 0 ≤ (x1_1 : Int) := od_
       have q779 : x1_1 < (l0.length : Int) := od_
       obtain ⟨ad779, e779, hx779_0, hx779_1, hx779_2, hx779_3, hx779_4, hx779_5, hx779_6⟩ := at_T55 HR0.out x1_1 p779 q779
       cases e779
       replace p779 := eq_true p779
       replace q779 := eq_true q779
       go_wp2_with (first | ((with_reducible refine gC_ (f := 98) rfl ?_); refine gM_ (some 10) rfl rfl Tryd.func98 (by kernel_rfl) rfl #[.int .i64 ((rd_T55 l0 x1_1).f0)] rfl ?_; (with_reducible refine (impl_Arity.calls k1 ((rd_T55 l0 x1_1).f0) t780 _ A5.out).mono ?_); rintro e w' ⟨rfl, ⟨nd, rfl⟩⟩; refine ⟨_, rfl, ?_⟩))
       go_ret
       exact ⟨by first | rfl | (simp; done) | (simp [*]; done), by repeat (first | exact Drawn0.refl _ | apply Drawn0.step)⟩
      rw [if_pos c6] at H
      have c6b0 := decide_eq_true c6
      clear c6
      have H' := Ad_.mk H
      clear H
      have p779 : 0 ≤ (x1_1 : Int) := od_
      have q779 : x1_1 < (l0.length : Int) := od_
      obtain ⟨ad779, e779, hx779_0, hx779_1, hx779_2, hx779_3, hx779_4, hx779_5, hx779_6⟩ := at_T55 HR0.out x1_1 p779 q779
      cases e779
      replace p779 := eq_true p779
      replace q779 := eq_true q779
      go_wp2_with (first | ((with_reducible refine gC_ (f := 98) rfl ?_); refine gM_ (some 10) rfl rfl Tryd.func98 (by kernel_rfl) rfl #[.int .i64 ((rd_T55 l0 x1_1).f0)] rfl ?_; (with_reducible refine (impl_Arity.calls k1 ((rd_T55 l0 x1_1).f0) t780 _ A5.out).mono ?_); rintro e w' ⟨rfl, ⟨nd, rfl⟩⟩; refine ⟨_, rfl, ?_⟩; have p781 : 0 ≤ (x1_1 : Int) := od_; have q781 : x1_1 < (l0.length : Int) := od_; obtain ⟨ad781, e781, hx781_0, hx781_1, hx781_2, hx781_3, hx781_4, hx781_5, hx781_6⟩ := at_T55 HR0.out x1_1 p781 q781; obtain rfl : ad779 = ad781 := (by injection e781); replace p781 := eq_true p781; replace q781 := eq_true q781))
      go_roundg k1
      case measure => have := HK1.out; omega
      case rel => exact ⟨((rd_T55 l0 x1_1).f1), fs_, H', ⟨by have := HK1.out; omega⟩, by repeat (first | exact Drawn0.refl _ | apply Drawn0.step)⟩
def impl_bodyOf.f (k : Nat) (l0 : List (S55)) (a1 : Int) : Option (Int × Int) := if 0 ≤ a1 then (if a1 < (l0.length : Int) then ((impl_startOf.f k l0 ((rd_T55 l0 a1).f1)).bind fun t783 => (some (t783, (rd_T55 l0 a1).f1))) else (none)) else (none)
set_option maxHeartbeats 8000000 in
set_option maxRecDepth 100000 in
theorem impl_bodyOf.calls (k : Nat) (A0 : Option Addr) (c0 : Nat) (l0 : List (S55)) (a1 : Int) (r1 : Int) (r2 : Int) (w : World) (hr0 : Kd.C k55 w A0 l0.length l0) (hc0 : l0.length ≤ c0) (h : impl_bodyOf.f k l0 a1 = some (r1, r2)) :
    Calls Tryd.prog 109 #[.slice A0 l0.length c0, .int .i64 a1] w fun e w' => e = .returned (.tuple #[.int .i64 r1, .int .i64 r2]) ∧ Drawn0 w w' := by
  have HR0 := Ad_.mk hr0
  have HC0 := Ad_.mk hc0
  clear hr0 hc0
  have H := h
  unfold impl_bodyOf.f at H
  clear h
  by_cases c3 : 0 ≤ a1
  rotate_left
  ·
   rw [if_neg c3] at H
   exact absurd H (by simp)
  rw [if_pos c3] at H
  have c3b0 := decide_eq_true c3
  clear c3
  by_cases c4 : a1 < (l0.length : Int)
  rotate_left
  ·
   rw [if_neg c4] at H
   exact absurd H (by simp)
  rw [if_pos c4] at H
  have c4b0 := decide_eq_true c4
  clear c4
  replace H := Option.bind_eq_some_iff.mp H
  obtain ⟨t783, A50, H⟩ := H
  try dsimp only at H
  have A5 := Ad_.mk A50
  clear A50
  simp only [Option.some.injEq, Prod.mk.injEq] at H
  obtain ⟨rfl, rfl⟩ := H
  have p782 : 0 ≤ (a1 : Int) := od_
  have q782 : a1 < (l0.length : Int) := od_
  obtain ⟨ad782, e782, hx782_0, hx782_1, hx782_2, hx782_3, hx782_4, hx782_5, hx782_6⟩ := at_T55 HR0.out a1 p782 q782
  cases e782
  replace p782 := eq_true p782
  replace q782 := eq_true q782
  go_enter Tryd.func109, Tryd.ntmps109
  go_wp2_with (first | (go_at_call 96; (with_reducible refine (impl_startOf.calls k _ _ l0 ((rd_T55 l0 a1).f1) t783 _ ?side1 ?side2 A5.out).mono ?_); (case side1 => repeat (first | exact HR0.out | (with_reducible refine Kd.C_alloc ?_ _) | (with_reducible refine Kd.C_drewN ?_ _) | (with_reducible refine Kd.C_drew ?_))); (case side2 => exact HC0.out); rintro e w' ⟨rfl, ⟨nd, rfl⟩⟩; (try first | exact ⟨rfl, _, World.drewN_drewN _ _ _⟩ | exact ⟨rfl, _, Eq.trans (World.drewN_drewN _ _ _) (congrArg (World.drewN _) (Nat.add_assoc _ _ _))⟩); have p784 : 0 ≤ (a1 : Int) := od_; have q784 : a1 < (l0.length : Int) := od_; obtain ⟨ad784, e784, hx784_0, hx784_1, hx784_2, hx784_3, hx784_4, hx784_5, hx784_6⟩ := at_T55 HR0.out a1 p784 q784; obtain rfl : ad782 = ad784 := (by injection e784); replace p784 := eq_true p784; replace q784 := eq_true q784))
  repeat (go_quiet (first | (go_at_call 96; (with_reducible refine (impl_startOf.calls k _ _ l0 ((rd_T55 l0 a1).f1) t783 _ ?side1 ?side2 A5.out).mono ?_); (case side1 => repeat (first | exact HR0.out | (with_reducible refine Kd.C_alloc ?_ _) | (with_reducible refine Kd.C_drewN ?_ _) | (with_reducible refine Kd.C_drew ?_))); (case side2 => exact HC0.out); rintro e w' ⟨rfl, ⟨nd, rfl⟩⟩; (try first | exact ⟨rfl, _, World.drewN_drewN _ _ _⟩ | exact ⟨rfl, _, Eq.trans (World.drewN_drewN _ _ _) (congrArg (World.drewN _) (Nat.add_assoc _ _ _))⟩); have p784 : 0 ≤ (a1 : Int) := od_; have q784 : a1 < (l0.length : Int) := od_; obtain ⟨ad784, e784, hx784_0, hx784_1, hx784_2, hx784_3, hx784_4, hx784_5, hx784_6⟩ := at_T55 HR0.out a1 p784 q784; obtain rfl : ad782 = ad784 := (by injection e784); replace p784 := eq_true p784; replace q784 := eq_true q784)); try go_wp2_with (first | (go_at_call 96; (with_reducible refine (impl_startOf.calls k _ _ l0 ((rd_T55 l0 a1).f1) t783 _ ?side1 ?side2 A5.out).mono ?_); (case side1 => repeat (first | exact HR0.out | (with_reducible refine Kd.C_alloc ?_ _) | (with_reducible refine Kd.C_drewN ?_ _) | (with_reducible refine Kd.C_drew ?_))); (case side2 => exact HC0.out); rintro e w' ⟨rfl, ⟨nd, rfl⟩⟩; (try first | exact ⟨rfl, _, World.drewN_drewN _ _ _⟩ | exact ⟨rfl, _, Eq.trans (World.drewN_drewN _ _ _) (congrArg (World.drewN _) (Nat.add_assoc _ _ _))⟩); have p784 : 0 ≤ (a1 : Int) := od_; have q784 : a1 < (l0.length : Int) := od_; obtain ⟨ad784, e784, hx784_0, hx784_1, hx784_2, hx784_3, hx784_4, hx784_5, hx784_6⟩ := at_T55 HR0.out a1 p784 q784; obtain rfl : ad782 = ad784 := (by injection e784); replace p784 := eq_true p784; replace q784 := eq_true q784)))
  go_ret2
  exact ⟨by first | rfl | (simp; done) | (simp [*]; done), by repeat (first | exact Drawn0.refl _ | apply Drawn0.step)⟩
def impl_given.f (l0 : List (S55)) (a1 : Int) : Option (Int × Int) := if 0 ≤ a1 then (if a1 < (l0.length : Int) then (if ((rd_T55 l0 a1).f0) = 6 then (some (a1, 1)) else (some (a1, 0))) else (none)) else (none)
set_option maxHeartbeats 8000000 in
set_option maxRecDepth 100000 in
theorem impl_given.calls (A0 : Option Addr) (c0 : Nat) (l0 : List (S55)) (a1 : Int) (r1 : Int) (r2 : Int) (w : World) (hr0 : Kd.C k55 w A0 l0.length l0) (hc0 : l0.length ≤ c0) (h : impl_given.f l0 a1 = some (r1, r2)) :
    Calls Tryd.prog 110 #[.slice A0 l0.length c0, .int .i64 a1] w fun e w' => e = .returned (.agg #[.int .i64 r1, .int .i64 r2]) ∧ Below w.heap.size w w' := by
  have hu59 := Tryd.underlying59
  have HR0 := Ad_.mk hr0
  have HC0 := Ad_.mk hc0
  clear hr0 hc0
  have HB := Ad_.mk (Below.refl w.heap.size w)
  have H := h
  unfold impl_given.f at H
  clear h
  by_cases c3 : 0 ≤ a1
  rotate_left
  ·
   rw [if_neg c3] at H
   exact absurd H (by simp)
  rw [if_pos c3] at H
  have c3b0 := decide_eq_true c3
  clear c3
  by_cases c4 : a1 < (l0.length : Int)
  rotate_left
  ·
   rw [if_neg c4] at H
   exact absurd H (by simp)
  rw [if_pos c4] at H
  have c4b0 := decide_eq_true c4
  clear c4
  by_cases c5 : ((rd_T55 l0 a1).f0) = 6
  rotate_left
  ·
   rw [if_neg c5] at H
   have c5b0 : (((rd_T55 l0 a1).f0) == 6) = false := beq_eq_false_iff_ne.mpr c5
   have c5b1 : (((rd_T55 l0 a1).f0) != 6) = true := bne_iff_ne.mpr c5
   simp only [Option.some.injEq, Prod.mk.injEq] at H
   obtain ⟨rfl, rfl⟩ := H
   go_enter Tryd.func110, Tryd.ntmps110
   go_wp2_with (first | ((with_reducible refine gD_ (N := 4) rfl ?_); refine bE_ ?hg (N := 4) ?hd (cs := #[.int .i64 0, .int .i64 0]) (t := 59) ?hr ?_; (case hd => rfl); (case hg => rfl); (case hr => first | (go_simp; done) | (go_simp; rfl)); intro gb785 hg w8 hbox hb; have n0_ := Ad_.mk (bQ_ HB.out hb); have n1_ := Ad_.mk (hbox); have n2_ := Ad_.mk ((by rw [hg]; exact (bZ_ (Bn_ HB.out)) : w.heap.size ≤ gb785)); have n3_ := Ad_.mk ((by rw [hg]; exact (bZ_ (Bn_ HB.out)) : w.heap.size ≤ gb785)); clear HB; have HB := n0_; have BK785 := n1_; have GW785 := n2_; have GE785 := n3_; clear n0_ n1_ n2_ n3_; clear hb hbox hg; have p786 : 0 ≤ (a1 : Int) := od_; have q786 : a1 < (l0.length : Int) := od_; obtain ⟨ad786, e786, hx786_0, hx786_1, hx786_2, hx786_3, hx786_4, hx786_5, hx786_6⟩ := at_T55 HR0.out a1 p786 q786; cases e786; replace hx786_0 := pB_ HB.out hx786_0; replace hx786_1 := pB_ HB.out hx786_1; replace hx786_2 := pB_ HB.out hx786_2; replace hx786_3 := pB_ HB.out hx786_3; replace hx786_4 := pB_ HB.out hx786_4; replace hx786_5 := pB_ HB.out hx786_5; replace hx786_6 := pB_ HB.out hx786_6; replace p786 := eq_true p786; replace q786 := eq_true q786; obtain ⟨hcz9_0, hcz9_1⟩ := cells2_ BK785.out; obtain ⟨hfz9_0, hfz9_1⟩ := froz2_ BK785.out))
   refine bodyPost_ret (results_cell_row rfl _ _ gb785 59 #[.int .i64 a1, .int .i64 0] (0, 0) _ rfl (by (with_reducible repeat (first | refine kN_ ?_ _ | refine k1_ ?_ | refine kA_ ?_ _)); refine blk_put (cs := #[.int .i64 a1, .int .i64 0]) ?_ 1 _ rfl; (with_reducible repeat (first | refine kN_ ?_ _ | refine k1_ ?_ | refine kA_ ?_ _)); refine blk_put (cs := #[.int .i64 0, .int .i64 0]) ?_ 0 _ rfl; (with_reducible repeat (first | refine kN_ ?_ _ | refine k1_ ?_ | refine kA_ ?_ _)); exact BK785.out) Tryd.underlying59 rfl (by kernel_rfl)) rfl ?_
   exact ⟨er_, Bo_ HB.out GE785.out⟩
  rw [if_pos c5] at H
  have c5b0 : (((rd_T55 l0 a1).f0) == 6) = true := beq_iff_eq.mpr c5
  have c5b1 : (((rd_T55 l0 a1).f0) != 6) = false := bne_eq_false_iff_eq.mpr c5
  clear c5
  simp only [Option.some.injEq, Prod.mk.injEq] at H
  obtain ⟨rfl, rfl⟩ := H
  go_enter Tryd.func110, Tryd.ntmps110
  go_wp2_with (first | ((with_reducible refine gD_ (N := 4) rfl ?_); refine bE_ ?hg (N := 4) ?hd (cs := #[.int .i64 0, .int .i64 0]) (t := 59) ?hr ?_; (case hd => rfl); (case hg => rfl); (case hr => first | (go_simp; done) | (go_simp; rfl)); intro gb785 hg w6 hbox hb; have n0_ := Ad_.mk (bQ_ HB.out hb); have n1_ := Ad_.mk (hbox); have n2_ := Ad_.mk ((by rw [hg]; exact (bZ_ (Bn_ HB.out)) : w.heap.size ≤ gb785)); have n3_ := Ad_.mk ((by rw [hg]; exact (bZ_ (Bn_ HB.out)) : w.heap.size ≤ gb785)); clear HB; have HB := n0_; have BK785 := n1_; have GW785 := n2_; have GE785 := n3_; clear n0_ n1_ n2_ n3_; clear hb hbox hg; have p786 : 0 ≤ (a1 : Int) := od_; have q786 : a1 < (l0.length : Int) := od_; obtain ⟨ad786, e786, hx786_0, hx786_1, hx786_2, hx786_3, hx786_4, hx786_5, hx786_6⟩ := at_T55 HR0.out a1 p786 q786; cases e786; replace hx786_0 := pB_ HB.out hx786_0; replace hx786_1 := pB_ HB.out hx786_1; replace hx786_2 := pB_ HB.out hx786_2; replace hx786_3 := pB_ HB.out hx786_3; replace hx786_4 := pB_ HB.out hx786_4; replace hx786_5 := pB_ HB.out hx786_5; replace hx786_6 := pB_ HB.out hx786_6; replace p786 := eq_true p786; replace q786 := eq_true q786; obtain ⟨hcz7_0, hcz7_1⟩ := cells2_ BK785.out; obtain ⟨hfz7_0, hfz7_1⟩ := froz2_ BK785.out))
  refine bodyPost_ret (results_cell_row rfl _ _ gb785 59 #[.int .i64 a1, .int .i64 1] (0, 0) _ rfl (by (with_reducible repeat (first | refine kN_ ?_ _ | refine k1_ ?_ | refine kA_ ?_ _)); refine blk_put (cs := #[.int .i64 a1, .int .i64 0]) ?_ 1 _ rfl; (with_reducible repeat (first | refine kN_ ?_ _ | refine k1_ ?_ | refine kA_ ?_ _)); refine blk_put (cs := #[.int .i64 0, .int .i64 0]) ?_ 0 _ rfl; (with_reducible repeat (first | refine kN_ ?_ _ | refine k1_ ?_ | refine kA_ ?_ _)); exact BK785.out) Tryd.underlying59 rfl (by kernel_rfl)) rfl ?_
  exact ⟨er_, Bo_ HB.out GE785.out⟩
end Go.Proofs.YtfmlamheflbgdaaDoor.PAll
end
