/- For each function of the Go program that is named here: its Lean function, and that Go comes to just its answer. Written by a program of the session out of the translation. -/
import Derived.Test.YtfmlamheflbgdaaDoorQf0
import Derived.Test.YtfmlamheflbgdaaDoorQf1
section
namespace Go.Proofs.YtfmlamheflbgdaaDoor.PAll
open Go.RowKit Go.Proofs.YtfmlamheflbgdaaDoorW.PrintWords Go.Proofs.YtfmlamheflbgdaaDoorW.PrintLast Go.Proofs.YtfmlamheflbgdaaDoorW.PrintMore
attribute [local go_sem] max2_int min2_int max_two min_two max_three min_three max_four min_four
set_option linter.unusedVariables false
set_option linter.unusedSimpArgs false
mutual
def impl_parents.l0 : Nat → List (S55) → List Int → Int → Int → Option (List Int)
  | 0, _, _, _, _ => none
  | k + 1, x0, x3, x13, x14 => if x14 < x13 then (if 0 ≤ x14 then (if x14 < (x3.length : Int) then (impl_parents.l0 k x0 (x3.set (x14 : Int).toNat (-1)) x13 (wrap64 (x14 + 1))) else (none)) else (none)) else (impl_parents.l1 k x3 x0 (x0.length : Int) 0)
def impl_parents.l1 : Nat → List Int → List (S55) → Int → Int → Option (List Int)
  | 0, _, _, _, _ => none
  | k + 1, x3, x21, x22, x23 => if x23 < x22 then (if 0 ≤ x23 then (if x23 < (x21.length : Int) then ((impl_Kids.f k ((rd_T55 x21 x23).f0) ((rd_T55 x21 x23).f1) ((rd_T55 x21 x23).f2) ((rd_T55 x21 x23).f3) ((rd_T55 x21 x23).f4) ((rd_T55 x21 x23).f5) ((rd_T55 x21 x23).f6)).bind fun t305 => (impl_parents.l2 k x3 x23 x21 x22 x23 t305 (t305.length : Int) 0)) else (none)) else (none)) else (some x3)
def impl_parents.l2 : Nat → List Int → Int → List (S55) → Int → Int → List Int → Int → Int → Option (List Int)
  | 0, _, _, _, _, _, _, _, _ => none
  | k + 1, x3, x5, x21, x22, x23, x29, x30, x31 => if x31 < x30 then (if 0 ≤ x31 then (if x31 < (x29.length : Int) then (if 0 ≤ (rd x29 x31) then (if (rd x29 x31) < (x3.length : Int) then (impl_parents.l2 k (x3.set ((rd x29 x31) : Int).toNat x5) x5 x21 x22 x23 x29 x30 (wrap64 (x31 + 1))) else (none)) else (none)) else (none)) else (none)) else (impl_parents.l1 k x3 x21 x22 (wrap64 (x23 + 1)))
end
def impl_parents.f (k : Nat) (l0 : List (S55)) : Option (List Int) := if 0 ≤ (l0.length : Int) then (if ((l0.length : Int) : Int).toNat ≤ 35184372088832 then ((some (List.replicate ((l0.length : Int) : Int).toNat 0 : List Int)).bind fun y299 => (impl_parents.l0 k l0 y299 (y299.length : Int) 0)) else (none)) else (none)
theorem impl_parents.mono_l : ∀ k, (∀ y0 y1 y2 y3, LeO (impl_parents.l0 k y0 y1 y2 y3) (impl_parents.l0 (k + 1) y0 y1 y2 y3)) ∧ (∀ y0 y1 y2 y3, LeO (impl_parents.l1 k y0 y1 y2 y3) (impl_parents.l1 (k + 1) y0 y1 y2 y3)) ∧ (∀ y0 y1 y2 y3 y4 y5 y6 y7, LeO (impl_parents.l2 k y0 y1 y2 y3 y4 y5 y6 y7) (impl_parents.l2 (k + 1) y0 y1 y2 y3 y4 y5 y6 y7))
  | 0 => ⟨fun _ _ _ _ r h => by simp [impl_parents.l0] at h, fun _ _ _ _ r h => by simp [impl_parents.l1] at h, fun _ _ _ _ _ _ _ _ r h => by simp [impl_parents.l2] at h⟩
  | k + 1 => by
    obtain ⟨ih0, ih1, ih2⟩ := impl_parents.mono_l k
    refine ⟨?_, ?_, ?_⟩
    (intro y0 y1 y2 y3; unfold impl_parents.l0; rotate_left)
    (intro y0 y1 y2 y3; unfold impl_parents.l1; rotate_left)
    (intro y0 y1 y2 y3 y4 y5 y6 y7; unfold impl_parents.l2; rotate_left)
    all_goals
      repeat' first
      | (with_reducible exact ih0 _ _ _ _)
      | (with_reducible exact ih1 _ _ _ _)
      | (with_reducible exact ih2 _ _ _ _ _ _ _ _)
      | (with_reducible exact impl_Kids.mono _ _ _ _ _ _ _ _)
      | (with_reducible exact LeO.refl _)
      | (with_reducible exact LeO.none _)
      | (with_reducible refine LeO.ite ?_ ?_)
      | (with_reducible refine LeO.bind ?_ (fun _ => ?_))
      | exact LeO.none _
      | refine LeO.ite ?_ ?_
      | refine LeO.bind ?_ (fun _ => ?_)
theorem impl_parents.mono : ∀ a0 k, LeO (impl_parents.f k a0) (impl_parents.f (k + 1) a0) := by
  intro a0 k
  obtain ⟨ih0, ih1, ih2⟩ := impl_parents.mono_l k
  unfold impl_parents.f
  repeat' first
      | (with_reducible exact ih0 _ _ _ _)
      | (with_reducible exact ih1 _ _ _ _)
      | (with_reducible exact ih2 _ _ _ _ _ _ _ _)
      | (with_reducible exact impl_Kids.mono _ _ _ _ _ _ _ _)
      | (with_reducible exact LeO.refl _)
      | (with_reducible exact LeO.none _)
      | (with_reducible refine LeO.ite ?_ ?_)
      | (with_reducible refine LeO.bind ?_ (fun _ => ?_))
      | exact LeO.none _
      | refine LeO.ite ?_ ?_
      | refine LeO.bind ?_ (fun _ => ?_)
set_option maxHeartbeats 8000000 in
set_option maxRecDepth 100000 in
theorem impl_parents.calls (k : Nat) (A0 : Option Addr) (c0 : Nat) (l0 : List (S55)) (r : List Int) (w : World) (hr0 : Kd.C k55 w A0 l0.length l0) (hc0 : l0.length ≤ c0) (h : impl_parents.f k l0 = some r) :
    Calls Tryd.prog 73 #[.slice A0 l0.length c0] w fun e w' => ∃ v0_ : Value, e = .returned (v0_) ∧ Kd.R (Kd.int .i64) 3 w' w.heap.size (fun _ => True) v0_ r ∧ Below w.heap.size w w' := by
  have hu55 := Tryd.underlying55
  have HR0 := Ad_.mk hr0
  have HC0 := Ad_.mk hc0
  clear hr0 hc0
  have HB := Ad_.mk (Below.refl w.heap.size w)
  have H := h
  unfold impl_parents.f at H
  clear h
  by_cases c2 : 0 ≤ (l0.length : Int)
  rotate_left
  ·
   rw [if_neg c2] at H
   exact absurd H (by simp)
  rw [if_pos c2] at H
  have c2b0 := eq_true c2
  have c2b1 := decide_eq_true c2
  clear c2
  by_cases c3 : ((l0.length : Int) : Int).toNat ≤ 35184372088832
  rotate_left
  ·
   rw [if_neg c3] at H
   exact absurd H (by simp)
  rw [if_pos c3] at H
  have c3b0 := eq_true c3
  have c3b1 := decide_eq_true c3
  clear c3
  obtain ⟨y299, hy299⟩ : ∃ y_ : List Int, y_ = (List.replicate ((l0.length : Int) : Int).toNat 0) := ⟨_, rfl⟩
  replace H : (impl_parents.l0 k l0 y299 (y299.length : Int) 0) = some r := by first | (rw [hy299]; with_reducible exact H) | (have H2_ := (Option.bind_some _ _).symm.trans H; rw [hy299]; with_reducible exact H2_) | (have H2_ := (Option.bind_some _ _).symm.trans H; with_reducible exact H2_) | with_reducible exact H | (rw [hy299]; exact H) | exact H
  have Ny299 := Ad_.mk hy299
  clear hy299
  have H' := Ad_.mk H
  clear H
  go_enter Tryd.func73, Tryd.ntmps73
  go_wp2_with (first | ((with_reducible refine gD_ (N := 11) rfl ?_); refine Kd.R_make (Kd.int .i64) _ 3 rfl (N := 11) rfl 31 _ _ rfl (l0.length : Int) rfl rfl Tryd.underlying31 (.int .i64 0) 8 info3 rfl (by decide) (by omega) 0 (ok := fun _ => True) (okp := fun _ => True) rfl (fun _ hk => hk) trivial (od_) (Nat.le_trans (Nat.mul_le_mul_right _ (od_ : (l0.length : Int).toNat ≤ 35184372088832)) (by omega)) (Below.refl _ _) (Nat.le_refl _) ?_; intro v300 w4 ho5 hb hg_ hnew_; clear hg_ hnew_; (first | rw [← Ny299.out] at ho5 | (simp only [Int.reduceToNat] at ho5; rw [← Ny299.out] at ho5)); have n0_ := Ad_.mk (Kd.R_lower ho5 (bZ_ (by repeat (with_reducible first | exact HB.out | apply bA_ | apply bN_ | apply b1_)))); have n1_ := Ad_.mk (bP_ (by repeat (with_reducible first | exact HB.out | apply bA_ | apply bN_ | apply b1_)) hb); clear HB; have HO301 := n0_; have HB := n1_; clear n0_ n1_; clear hb ho5; obtain ⟨Ao6, co6, eo6⟩ := Kd.R_slice HO301.out; subst eo6))
  go_loopg [14] k (fun kq v14 w' => ∃ (x3_1 : List Int) (x14_1 : Int), v14 = .int .i64 x14_1 ∧ Ad_ (impl_parents.l0 kq l0 x3_1 (y299.length : Int) x14_1 = some r) ∧ Ad_ (kq ≤ k) ∧ Ad_ (Kd.R (Kd.int .i64) 3 w' w.heap.size (fun _ => True) (.slice Ao6 y299.length co6) x3_1) ∧ Ad_ (Below w.heap.size w w'))
  case atStart => exact ⟨(y299), (0), fs_, H', ⟨Nat.le_refl _⟩, ⟨by (with_reducible repeat (first | apply Kd.R_alloc | apply Kd.R_drewN | apply Kd.R_drew)); exact HO301.out⟩, ⟨by repeat (with_reducible first | exact HB.out | apply bA_ | apply bN_ | apply b1_)⟩⟩
  case round =>
    clear H'
    try clear c2b0 c2b1
    try clear p2
    try clear c3b0 c3b1
    obtain ⟨x3_1, x14_1, rfl, HA, HK1, HO_3, HB⟩ := hrel
    have hl3_1 := (Kd.R_reads' HO_3.out).1
    rw [hl3_1] at HO_3
    (try simp only [hl3_1])
    cases gk with
    | zero => exact absurd HA.out (by simp [impl_parents.l0])
    | succ k1 =>
      have H := HA.out
      clear HA
      simp only [impl_parents.l0] at H
      by_cases c7 : x14_1 < (y299.length : Int)
      ·
       rw [if_pos c7] at H
       have c7b0 := decide_eq_true c7
       (try (have c7b0h : decide (x14_1 < (x3_1.length : Int)) = true := by rw [← hl3_1]; exact c7b0))
       clear c7
       by_cases c8 : 0 ≤ x14_1
       rotate_left
       ·
        rw [if_neg c8] at H
        exact absurd H (by simp)
       rw [if_pos c8] at H
       have c8b0 := decide_eq_true c8
       clear c8
       by_cases c9 : x14_1 < (x3_1.length : Int)
       rotate_left
       ·
        rw [if_neg c9] at H
        exact absurd H (by simp)
       rw [if_pos c9] at H
       have c9b0 := decide_eq_true c9
       clear c9
       obtain ⟨y302, hy302⟩ : ∃ y_ : List Int, y_ = (x3_1.set (x14_1 : Int).toNat (-1)) := ⟨_, rfl⟩
       replace H : (impl_parents.l0 k1 l0 y302 (y299.length : Int) (wrap64 (x14_1 + 1))) = some r := by first | (rw [hy302]; with_reducible exact H) | (have H2_ := (Option.bind_some _ _).symm.trans H; rw [hy302]; with_reducible exact H2_) | (have H2_ := (Option.bind_some _ _).symm.trans H; with_reducible exact H2_) | with_reducible exact H | (rw [hy302]; exact H) | exact H
       have Ny302 := Ad_.mk hy302
       clear hy302
       have H' := Ad_.mk H
       clear H
       have p10 : 0 ≤ (x14_1 : Int) := od_
       have q10 : (x14_1 : Int) < ((x3_1.length : Int) : Int) := od_
       obtain ⟨go10, co10, eo10, gb10, gl10, cl10, HG10⟩ := Kd.R_form HO_3.out (by omega)
       (first | cases eo10 | (injection eo10 with ea_ en_ ec_; (first | subst ea_ | (injection ea_ with ea_; subst ea_)); subst ec_; clear en_))
       have GB10 := Ad_.mk gb10
       have GG10 := Ad_.mk HG10
       clear gb10 gl10 HG10
       obtain ⟨hx10_0, hf10_0⟩ := Kd.R_celln 0 HO_3.out (x14_1 : Int) p10 q10
       replace p10 := eq_true p10
       replace q10 := eq_true q10
       have HP11 := Kd.R_putg HO_3.out (x14_1 : Int) (-1)
       go_wp2_with (first | ((with_reducible refine gate_store (t := 3) (p := 19) rfl ?_); refine store_event (t := 3) (p := 19) (v := ?vo_w12) (w1 := (wr.setCell ⟨go10, (x14_1 : Int).toNat, none⟩ (.int .i64 (-1)))) ?hg ?ho ?hn ?hr ?_; (case ho => rfl); (case hg => rfl); (case hn => rfl); (case hr => first | (go_simp; done) | (go_simp; rfl)); intro w12 hw; have hg : wr.grownBy w12 (some go10) := (by rw [hw]; exact HP11.2); have hp_ : Kd.R (Kd.int .i64) 3 w12 w.heap.size (fun _ => True) (.slice (some ⟨go10, 0, none⟩) x3_1.length co6) y302 := (by rw [hw, Ny302.out]; exact HP11.1); clear HP11; have n0_ := Ad_.mk (hp_); have n1_ := Ad_.mk ((by rw [hw]; exact bS_ (HB.out) GB10.out : Below w.heap.size w w12)); clear HO_3; clear HB; have HO_3 := n0_; have HB := n1_; clear n0_ n1_; clear hg hw hp_))
       (try simp only [← hl3_1])
       go_roundg k1
       case measure => have := HK1.out; omega
       case rel => exact ⟨(y302), (wrap64 (x14_1 + 1)), fs_, H', ⟨by have := HK1.out; omega⟩, ⟨by (try simp only [hl3_1]); (with_reducible repeat (first | apply Kd.R_alloc | apply Kd.R_drewN | apply Kd.R_drew)); exact HO_3.out⟩, ⟨by repeat (with_reducible first | exact HB.out | apply bA_ | apply bN_ | apply b1_)⟩⟩
      rw [if_neg c7] at H
      have c7b0 := decide_eq_false c7
      (try (have c7b0h : decide (x14_1 < (x3_1.length : Int)) = false := by rw [← hl3_1]; exact c7b0))
      clear c7
      have H' := Ad_.mk H
      clear H
      go_wp2
      go_loopg [23] k1 (fun kq v23 w' => ∃ (x3_2 : List Int) (x23_2 : Int), v23 = .int .i64 x23_2 ∧ Ad_ (impl_parents.l1 kq x3_2 l0 (l0.length : Int) x23_2 = some r) ∧ Ad_ (kq ≤ k1) ∧ Ad_ (Kd.R (Kd.int .i64) 3 w' w.heap.size (fun _ => True) (.slice Ao6 x3_1.length co6) x3_2) ∧ Ad_ (Below w.heap.size w w'))
      case atStart => exact ⟨(x3_1), (0), fs_, H', ⟨Nat.le_refl _⟩, ⟨by (try simp only [hl3_1]); (with_reducible repeat (first | apply Kd.R_alloc | apply Kd.R_drewN | apply Kd.R_drew)); exact HO_3.out⟩, ⟨by repeat (with_reducible first | exact HB.out | apply bA_ | apply bN_ | apply b1_)⟩⟩
      case round =>
        clear H'
        try clear p1
        try clear q1
        try clear hx1
        try clear hf1
        try clear c2b0 c2b1
        try clear p2
        try clear c3b0 c3b1
        try clear p6
        try clear c7b0
        try clear c8b0
        try clear c9b0
        try clear p10
        try clear q10
        try clear hx10
        try clear hf10
        try clear hx10_0
        try clear p10
        try clear p2
        try clear q10
        obtain ⟨x3_2, x23_2, rfl, HA, HK2, HO_3, HB⟩ := hrel
        have hl3_2 := (Kd.R_reads' HO_3.out).1
        rw [hl3_2] at HO_3
        (try simp only [hl3_2])
        cases gk with
        | zero => exact absurd HA.out (by simp [impl_parents.l1])
        | succ k2 =>
          have H := HA.out
          clear HA
          simp only [impl_parents.l1] at H
          by_cases c13 : x23_2 < (l0.length : Int)
          rotate_left
          ·
           rw [if_neg c13] at H
           have c13b0 := decide_eq_false c13
           clear c13
           obtain rfl := Option.some.inj H
           go_wp2
           go_ret
           exact ⟨_, by first | rfl | (simp [errW_none, errW_some] <;> rfl) | (simp [*, errW_none, errW_some] <;> rfl), by (with_reducible repeat (first | apply Kd.R_alloc | apply Kd.R_drewN | apply Kd.R_drew)); exact HO_3.out, by repeat (with_reducible first | exact HB.out | apply bA_ | apply bN_ | apply b1_)⟩
          rw [if_pos c13] at H
          have c13b0 := decide_eq_true c13
          clear c13
          by_cases c14 : 0 ≤ x23_2
          rotate_left
          ·
           rw [if_neg c14] at H
           exact absurd H (by simp)
          rw [if_pos c14] at H
          have c14b0 := decide_eq_true c14
          clear c14
          by_cases c15 : x23_2 < (l0.length : Int)
          rotate_left
          ·
           rw [if_neg c15] at H
           exact absurd H (by simp)
          rw [if_pos c15] at H
          have c15b0 := decide_eq_true c15
          clear c15
          replace H := Option.bind_eq_some_iff.mp H
          obtain ⟨t305, A160, H⟩ := H
          try dsimp only at H
          have A16 := Ad_.mk A160
          clear A160
          have H' := Ad_.mk H
          clear H
          have p303 : 0 ≤ (x23_2 : Int) := od_
          have q303 : x23_2 < (l0.length : Int) := od_
          obtain ⟨ad303, e303, hx303_0, hx303_1, hx303_2, hx303_3, hx303_4, hx303_5, hx303_6⟩ := at_T55 HR0.out x23_2 p303 q303
          cases e303
          replace hx303_0 := pB_ HB.out hx303_0
          replace hx303_1 := pB_ HB.out hx303_1
          replace hx303_2 := pB_ HB.out hx303_2
          replace hx303_3 := pB_ HB.out hx303_3
          replace hx303_4 := pB_ HB.out hx303_4
          replace hx303_5 := pB_ HB.out hx303_5
          replace hx303_6 := pB_ HB.out hx303_6
          replace p303 := eq_true p303
          replace q303 := eq_true q303
          go_wp2_with (first | ((with_reducible refine gD_ (N := 6) rfl ?_); refine bE_ ?hg (N := 6) ?hd (cs := #[.int .i64 0, .int .i64 0, .int .i64 0, .int .i64 0, .int .i64 0, .string (⟨#[]⟩ : ByteArray), .string (⟨#[]⟩ : ByteArray)]) (t := 55) ?hr ?_; (case hd => rfl); (case hg => rfl); (case hr => first | (go_simp; done) | (go_simp; rfl)); intro gb304 hg w17 hbox hb; have n0_ := Ad_.mk (Kd.R_below (by (with_reducible repeat (first | apply Kd.R_alloc | apply Kd.R_drewN | apply Kd.R_drew)); exact HO_3.out) hb); have n1_ := Ad_.mk (bP_ (by repeat (with_reducible first | exact HB.out | apply bA_ | apply bN_ | apply b1_)) hb); have n2_ := Ad_.mk (hbox); have n3_ := Ad_.mk ((by rw [hg]; exact (bZ_ (by repeat (with_reducible first | exact HB.out | apply bA_ | apply bN_ | apply b1_))) : w.heap.size ≤ gb304)); have n4_ := Ad_.mk ((by rw [hg]; exact (bZ_ (by repeat (with_reducible first | exact HB.out | apply bA_ | apply bN_ | apply b1_))) : w.heap.size ≤ gb304)); clear HO_3; clear HB; have HO_3 := n0_; have HB := n1_; have BK304 := n2_; have GW304 := n3_; have GE304 := n4_; clear n0_ n1_ n2_ n3_ n4_; clear hb hbox hg; obtain ⟨hcz18_0, hcz18_1, hcz18_2, hcz18_3, hcz18_4, hcz18_5, hcz18_6⟩ := cells7_ BK304.out; obtain ⟨hfz18_0, hfz18_1, hfz18_2, hfz18_3, hfz18_4, hfz18_5, hfz18_6⟩ := froz7_ BK304.out) | ((with_reducible refine gC_ (f := 56) rfl ?_); refine gM_ (some 29) rfl rfl Tryd.func56 (by kernel_rfl) rfl #[.agg #[.int .i64 ((rd_T55 l0 x23_2).f0), .int .i64 ((rd_T55 l0 x23_2).f1), .int .i64 ((rd_T55 l0 x23_2).f2), .int .i64 ((rd_T55 l0 x23_2).f3), .int .i64 ((rd_T55 l0 x23_2).f4), .string ((rd_T55 l0 x23_2).f5), .string ((rd_T55 l0 x23_2).f6)]] rfl ?_; (with_reducible refine (impl_Kids.calls k2 ((rd_T55 l0 x23_2).f0) ((rd_T55 l0 x23_2).f1) ((rd_T55 l0 x23_2).f2) ((rd_T55 l0 x23_2).f3) ((rd_T55 l0 x23_2).f4) ((rd_T55 l0 x23_2).f5) ((rd_T55 l0 x23_2).f6) t305 _ A16.out).mono ?_); rintro e w19 ⟨v306, rfl, ho0, hb⟩; refine ⟨_, rfl, ?_⟩; have n0_ := Ad_.mk (Kd.R_below (by (with_reducible repeat (first | apply Kd.R_alloc | apply Kd.R_drewN | apply Kd.R_drew)); exact (Kd.R_mono (Kd.R_far (p := ⟨gb304, 6, none⟩) (Kd.R_far (p := ⟨gb304, 5, none⟩) (Kd.R_far (p := ⟨gb304, 4, none⟩) (Kd.R_far (p := ⟨gb304, 3, none⟩) (Kd.R_far (p := ⟨gb304, 2, none⟩) (Kd.R_far (p := ⟨gb304, 1, none⟩) (Kd.R_far (p := ⟨gb304, 0, none⟩) (Kd.R_types HO_3.out BK304.out (by decide)) (fun _ hk => hk.2) (.int .i64 ((rd_T55 l0 x23_2).f0))) (fun _ hk => hk.2) (.int .i64 ((rd_T55 l0 x23_2).f1))) (fun _ hk => hk.2) (.int .i64 ((rd_T55 l0 x23_2).f2))) (fun _ hk => hk.2) (.int .i64 ((rd_T55 l0 x23_2).f3))) (fun _ hk => hk.2) (.int .i64 ((rd_T55 l0 x23_2).f4))) (fun _ hk => hk.2) (.string ((rd_T55 l0 x23_2).f5))) (fun _ hk => hk.2) (.string ((rd_T55 l0 x23_2).f6))) (fun _ h_ => h_.1))) hb); have n1_ := Ad_.mk (Kd.V_lower (Kd.V_mono (ok' := fun k_ => some k_ ≠ (.slice Ao6 x3_2.length co6 : Value).ownBlock ∧ k_ ≠ gb304) ho0 (fun k_ hk_ => ⟨(Kd.fresh' (Kd.R_lt (by (with_reducible repeat (first | apply Kd.R_alloc | apply Kd.R_drewN | apply Kd.R_drew)); exact (Kd.R_mono (Kd.R_far (p := ⟨gb304, 6, none⟩) (Kd.R_far (p := ⟨gb304, 5, none⟩) (Kd.R_far (p := ⟨gb304, 4, none⟩) (Kd.R_far (p := ⟨gb304, 3, none⟩) (Kd.R_far (p := ⟨gb304, 2, none⟩) (Kd.R_far (p := ⟨gb304, 1, none⟩) (Kd.R_far (p := ⟨gb304, 0, none⟩) (Kd.R_types HO_3.out BK304.out (by decide)) (fun _ hk => hk.2) (.int .i64 ((rd_T55 l0 x23_2).f0))) (fun _ hk => hk.2) (.int .i64 ((rd_T55 l0 x23_2).f1))) (fun _ hk => hk.2) (.int .i64 ((rd_T55 l0 x23_2).f2))) (fun _ hk => hk.2) (.int .i64 ((rd_T55 l0 x23_2).f3))) (fun _ hk => hk.2) (.int .i64 ((rd_T55 l0 x23_2).f4))) (fun _ hk => hk.2) (.string ((rd_T55 l0 x23_2).f5))) (fun _ hk => hk.2) (.string ((rd_T55 l0 x23_2).f6))) (fun _ h_ => h_.1)))) k_ hk_), (Kd.freshB (g := gb304) (o := .cells #[.int .i64 ((rd_T55 l0 x23_2).f0), .int .i64 ((rd_T55 l0 x23_2).f1), .int .i64 ((rd_T55 l0 x23_2).f2), .int .i64 ((rd_T55 l0 x23_2).f3), .int .i64 ((rd_T55 l0 x23_2).f4), .string ((rd_T55 l0 x23_2).f5), .string ((rd_T55 l0 x23_2).f6)] 55 (0, 0)) (by (with_reducible repeat (first | refine kN_ ?_ _ | refine k1_ ?_ | refine kA_ ?_ _)); refine blk_put (cs := #[.int .i64 ((rd_T55 l0 x23_2).f0), .int .i64 ((rd_T55 l0 x23_2).f1), .int .i64 ((rd_T55 l0 x23_2).f2), .int .i64 ((rd_T55 l0 x23_2).f3), .int .i64 ((rd_T55 l0 x23_2).f4), .string ((rd_T55 l0 x23_2).f5), .string (⟨#[]⟩ : ByteArray)]) ?_ 6 _ rfl; (with_reducible repeat (first | refine kN_ ?_ _ | refine k1_ ?_ | refine kA_ ?_ _)); refine blk_put (cs := #[.int .i64 ((rd_T55 l0 x23_2).f0), .int .i64 ((rd_T55 l0 x23_2).f1), .int .i64 ((rd_T55 l0 x23_2).f2), .int .i64 ((rd_T55 l0 x23_2).f3), .int .i64 ((rd_T55 l0 x23_2).f4), .string (⟨#[]⟩ : ByteArray), .string (⟨#[]⟩ : ByteArray)]) ?_ 5 _ rfl; (with_reducible repeat (first | refine kN_ ?_ _ | refine k1_ ?_ | refine kA_ ?_ _)); refine blk_put (cs := #[.int .i64 ((rd_T55 l0 x23_2).f0), .int .i64 ((rd_T55 l0 x23_2).f1), .int .i64 ((rd_T55 l0 x23_2).f2), .int .i64 ((rd_T55 l0 x23_2).f3), .int .i64 0, .string (⟨#[]⟩ : ByteArray), .string (⟨#[]⟩ : ByteArray)]) ?_ 4 _ rfl; (with_reducible repeat (first | refine kN_ ?_ _ | refine k1_ ?_ | refine kA_ ?_ _)); refine blk_put (cs := #[.int .i64 ((rd_T55 l0 x23_2).f0), .int .i64 ((rd_T55 l0 x23_2).f1), .int .i64 ((rd_T55 l0 x23_2).f2), .int .i64 0, .int .i64 0, .string (⟨#[]⟩ : ByteArray), .string (⟨#[]⟩ : ByteArray)]) ?_ 3 _ rfl; (with_reducible repeat (first | refine kN_ ?_ _ | refine k1_ ?_ | refine kA_ ?_ _)); refine blk_put (cs := #[.int .i64 ((rd_T55 l0 x23_2).f0), .int .i64 ((rd_T55 l0 x23_2).f1), .int .i64 0, .int .i64 0, .int .i64 0, .string (⟨#[]⟩ : ByteArray), .string (⟨#[]⟩ : ByteArray)]) ?_ 2 _ rfl; (with_reducible repeat (first | refine kN_ ?_ _ | refine k1_ ?_ | refine kA_ ?_ _)); refine blk_put (cs := #[.int .i64 ((rd_T55 l0 x23_2).f0), .int .i64 0, .int .i64 0, .int .i64 0, .int .i64 0, .string (⟨#[]⟩ : ByteArray), .string (⟨#[]⟩ : ByteArray)]) ?_ 1 _ rfl; (with_reducible repeat (first | refine kN_ ?_ _ | refine k1_ ?_ | refine kA_ ?_ _)); refine blk_put (cs := #[.int .i64 0, .int .i64 0, .int .i64 0, .int .i64 0, .int .i64 0, .string (⟨#[]⟩ : ByteArray), .string (⟨#[]⟩ : ByteArray)]) ?_ 0 _ rfl; (with_reducible repeat (first | refine kN_ ?_ _ | refine k1_ ?_ | refine kA_ ?_ _)); exact BK304.out) k_ hk_)⟩)) (bZ_ (by repeat (with_reducible first | exact HB.out | apply bA_ | apply bN_ | apply b1_ | refine bS_ ?_ GE304.out)))); have n2_ := Ad_.mk (blk_below (g := gb304) (o := .cells #[.int .i64 ((rd_T55 l0 x23_2).f0), .int .i64 ((rd_T55 l0 x23_2).f1), .int .i64 ((rd_T55 l0 x23_2).f2), .int .i64 ((rd_T55 l0 x23_2).f3), .int .i64 ((rd_T55 l0 x23_2).f4), .string ((rd_T55 l0 x23_2).f5), .string ((rd_T55 l0 x23_2).f6)] 55 (0, 0)) (by (with_reducible repeat (first | refine kN_ ?_ _ | refine k1_ ?_ | refine kA_ ?_ _)); refine blk_put (cs := #[.int .i64 ((rd_T55 l0 x23_2).f0), .int .i64 ((rd_T55 l0 x23_2).f1), .int .i64 ((rd_T55 l0 x23_2).f2), .int .i64 ((rd_T55 l0 x23_2).f3), .int .i64 ((rd_T55 l0 x23_2).f4), .string ((rd_T55 l0 x23_2).f5), .string (⟨#[]⟩ : ByteArray)]) ?_ 6 _ rfl; (with_reducible repeat (first | refine kN_ ?_ _ | refine k1_ ?_ | refine kA_ ?_ _)); refine blk_put (cs := #[.int .i64 ((rd_T55 l0 x23_2).f0), .int .i64 ((rd_T55 l0 x23_2).f1), .int .i64 ((rd_T55 l0 x23_2).f2), .int .i64 ((rd_T55 l0 x23_2).f3), .int .i64 ((rd_T55 l0 x23_2).f4), .string (⟨#[]⟩ : ByteArray), .string (⟨#[]⟩ : ByteArray)]) ?_ 5 _ rfl; (with_reducible repeat (first | refine kN_ ?_ _ | refine k1_ ?_ | refine kA_ ?_ _)); refine blk_put (cs := #[.int .i64 ((rd_T55 l0 x23_2).f0), .int .i64 ((rd_T55 l0 x23_2).f1), .int .i64 ((rd_T55 l0 x23_2).f2), .int .i64 ((rd_T55 l0 x23_2).f3), .int .i64 0, .string (⟨#[]⟩ : ByteArray), .string (⟨#[]⟩ : ByteArray)]) ?_ 4 _ rfl; (with_reducible repeat (first | refine kN_ ?_ _ | refine k1_ ?_ | refine kA_ ?_ _)); refine blk_put (cs := #[.int .i64 ((rd_T55 l0 x23_2).f0), .int .i64 ((rd_T55 l0 x23_2).f1), .int .i64 ((rd_T55 l0 x23_2).f2), .int .i64 0, .int .i64 0, .string (⟨#[]⟩ : ByteArray), .string (⟨#[]⟩ : ByteArray)]) ?_ 3 _ rfl; (with_reducible repeat (first | refine kN_ ?_ _ | refine k1_ ?_ | refine kA_ ?_ _)); refine blk_put (cs := #[.int .i64 ((rd_T55 l0 x23_2).f0), .int .i64 ((rd_T55 l0 x23_2).f1), .int .i64 0, .int .i64 0, .int .i64 0, .string (⟨#[]⟩ : ByteArray), .string (⟨#[]⟩ : ByteArray)]) ?_ 2 _ rfl; (with_reducible repeat (first | refine kN_ ?_ _ | refine k1_ ?_ | refine kA_ ?_ _)); refine blk_put (cs := #[.int .i64 ((rd_T55 l0 x23_2).f0), .int .i64 0, .int .i64 0, .int .i64 0, .int .i64 0, .string (⟨#[]⟩ : ByteArray), .string (⟨#[]⟩ : ByteArray)]) ?_ 1 _ rfl; (with_reducible repeat (first | refine kN_ ?_ _ | refine k1_ ?_ | refine kA_ ?_ _)); refine blk_put (cs := #[.int .i64 0, .int .i64 0, .int .i64 0, .int .i64 0, .int .i64 0, .string (⟨#[]⟩ : ByteArray), .string (⟨#[]⟩ : ByteArray)]) ?_ 0 _ rfl; (with_reducible repeat (first | refine kN_ ?_ _ | refine k1_ ?_ | refine kA_ ?_ _)); exact BK304.out) hb); have n3_ := Ad_.mk (bP_ (by repeat (with_reducible first | exact HB.out | apply bA_ | apply bN_ | apply b1_ | refine bS_ ?_ GE304.out)) hb); clear HO_3; clear BK304; clear HB; have HO_3 := n0_; have HO307 := n1_; have BK304 := n2_; have HB := n3_; clear n0_ n1_ n2_ n3_; (try clear hb); (try clear hb2); (try clear hk); (try clear hi); (try clear ho0); obtain ⟨Ao20, co20, eo20⟩ := Kd.V_slice HO307.out; subst eo20))
          go_loopg [31] k2 (fun kq v31 w' => ∃ (x3_3 : List Int) (x31_3 : Int), v31 = .int .i64 x31_3 ∧ Ad_ (impl_parents.l2 kq x3_3 x23_2 l0 (l0.length : Int) x23_2 t305 (t305.length : Int) x31_3 = some r) ∧ Ad_ (kq ≤ k2) ∧ Ad_ (Kd.R (Kd.int .i64) 3 w' w.heap.size (fun _ => True) (.slice Ao6 x3_2.length co6) x3_3) ∧ Ad_ (Kd.V (Kd.int .i64) 3 w' w.heap.size (fun k_ => some k_ ≠ ((.slice Ao6 x3_2.length co6) : Value).ownBlock ∧ k_ ≠ gb304) (.slice Ao20 t305.length co20) t305) ∧ Ad_ (w'.heap[gb304]? = some (.cells #[.int .i64 ((rd_T55 l0 x23_2).f0), .int .i64 ((rd_T55 l0 x23_2).f1), .int .i64 ((rd_T55 l0 x23_2).f2), .int .i64 ((rd_T55 l0 x23_2).f3), .int .i64 ((rd_T55 l0 x23_2).f4), .string ((rd_T55 l0 x23_2).f5), .string ((rd_T55 l0 x23_2).f6)] 55 (0, 0))) ∧ Ad_ (Below w.heap.size w w'))
          case atStart => exact ⟨(x3_2), (0), fs_, H', ⟨Nat.le_refl _⟩, ⟨by (try simp only [hl3_1]); (try simp only [hl3_2]); (with_reducible repeat (first | apply Kd.R_alloc | apply Kd.R_drewN | apply Kd.R_drew)); exact HO_3.out⟩, ⟨by (try simp only [hl3_1]); (try simp only [hl3_2]); (with_reducible repeat (first | apply Kd.V_alloc | apply Kd.V_drewN | apply Kd.V_drew)); exact HO307.out⟩, ⟨by (try simp only [hl3_1]); (try simp only [hl3_2]); (with_reducible repeat (first | refine kN_ ?_ _ | refine k1_ ?_ | refine kA_ ?_ _)); exact BK304.out⟩, ⟨by repeat (with_reducible first | exact HB.out | apply bA_ | apply bN_ | apply b1_ | refine bS_ ?_ GE304.out)⟩⟩
          case round =>
            clear H'
            try clear p1
            try clear q1
            try clear hx1
            try clear hf1
            try clear c2b0 c2b1
            try clear p2
            try clear c3b0 c3b1
            try clear p3
            try clear q3
            try clear hx3
            try clear p6
            try clear c7b0
            try clear c8b0
            try clear c9b0
            try clear p10
            try clear q10
            try clear hx10
            try clear hf10
            try clear c13b0
            try clear c14b0
            try clear c15b0
            try clear hcz18_0 hcz18_1 hcz18_2 hcz18_3 hcz18_4 hcz18_5 hcz18_6
            try clear hfz18_0 hfz18_1 hfz18_2 hfz18_3 hfz18_4 hfz18_5 hfz18_6
            try clear hx10_0
            try clear hx303_0
            try clear hx303_1
            try clear hx303_2
            try clear hx303_3
            try clear hx303_4
            try clear hx303_5
            try clear hx303_6
            try clear p1
            try clear p10
            try clear p2
            try clear p303
            try clear p6
            try clear q1
            try clear q10
            try clear q303
            obtain ⟨x3_3, x31_3, rfl, HA, HK3, HO_3, HO_29, BK304, HB⟩ := hrel
            have hl3_3 := (Kd.R_reads' HO_3.out).1
            rw [hl3_3] at HO_3
            (try simp only [hl3_3])
            (try simp only [hl3_3] at BK304)
            (try simp only [hl3_3] at HO_29)
            cases gk with
            | zero => exact absurd HA.out (by simp [impl_parents.l2])
            | succ k3 =>
              have H := HA.out
              clear HA
              simp only [impl_parents.l2] at H
              by_cases c21 : x31_3 < (t305.length : Int)
              rotate_left
              ·
               rw [if_neg c21] at H
               have c21b0 := decide_eq_false c21
               clear c21
               have H' := Ad_.mk H
               clear H
               go_wp2
               (try simp only [← hl3_2, ← hl3_3])
               go_roundg k3
               case measure => have := HK1.out; have := HK2.out; have := HK3.out; omega
               case rel => exact ⟨(x3_3), (wrap64 (x23_2 + 1)), fs_, H', ⟨by have := HK1.out; have := HK2.out; have := HK3.out; omega⟩, ⟨by (try simp only [hl3_1]); (try simp only [hl3_2]); (try simp only [hl3_3]); (with_reducible repeat (first | apply Kd.R_alloc | apply Kd.R_drewN | apply Kd.R_drew)); exact HO_3.out⟩, ⟨by repeat (with_reducible first | exact HB.out | apply bA_ | apply bN_ | apply b1_ | refine bS_ ?_ GE304.out)⟩⟩
              rw [if_pos c21] at H
              have c21b0 := decide_eq_true c21
              clear c21
              by_cases c22 : 0 ≤ x31_3
              rotate_left
              ·
               rw [if_neg c22] at H
               exact absurd H (by simp)
              rw [if_pos c22] at H
              have c22b0 := decide_eq_true c22
              clear c22
              by_cases c23 : x31_3 < (t305.length : Int)
              rotate_left
              ·
               rw [if_neg c23] at H
               exact absurd H (by simp)
              rw [if_pos c23] at H
              have c23b0 := decide_eq_true c23
              clear c23
              by_cases c24 : 0 ≤ (rd t305 x31_3)
              rotate_left
              ·
               rw [if_neg c24] at H
               exact absurd H (by simp)
              rw [if_pos c24] at H
              have c24b0 := decide_eq_true c24
              clear c24
              by_cases c25 : (rd t305 x31_3) < (x3_3.length : Int)
              rotate_left
              ·
               rw [if_neg c25] at H
               exact absurd H (by simp)
              rw [if_pos c25] at H
              have c25b0 := decide_eq_true c25
              clear c25
              obtain ⟨y309, hy309⟩ : ∃ y_ : List Int, y_ = (x3_3.set ((rd t305 x31_3) : Int).toNat x23_2) := ⟨_, rfl⟩
              replace H : (impl_parents.l2 k3 y309 x23_2 l0 (l0.length : Int) x23_2 t305 (t305.length : Int) (wrap64 (x31_3 + 1))) = some r := by first | (rw [hy309]; with_reducible exact H) | (have H2_ := (Option.bind_some _ _).symm.trans H; rw [hy309]; with_reducible exact H2_) | (have H2_ := (Option.bind_some _ _).symm.trans H; with_reducible exact H2_) | with_reducible exact H | (rw [hy309]; exact H) | exact H
              have Ny309 := Ad_.mk hy309
              clear hy309
              have H' := Ad_.mk H
              clear H
              have p308 : 0 ≤ (x31_3 : Int) := od_
              have q308 : x31_3 < (t305.length : Int) := od_
              obtain ⟨ad308, e308, hx308_0⟩ := Kd.at_int (Kd.V_reads' HO_29.out).2.2 x31_3 p308 q308
              cases e308
              replace p308 := eq_true p308
              replace q308 := eq_true q308
              have p26 : 0 ≤ ((rd t305 x31_3) : Int) := od_
              have q26 : ((rd t305 x31_3) : Int) < ((x3_3.length : Int) : Int) := od_
              obtain ⟨go26, co26, eo26, gb26, gl26, cl26, HG26⟩ := Kd.R_form HO_3.out (by omega)
              (first | cases eo26 | (injection eo26 with ea_ en_ ec_; (first | subst ea_ | (injection ea_ with ea_; subst ea_)); subst ec_; clear en_))
              have GB26 := Ad_.mk gb26
              have GG26 := Ad_.mk HG26
              clear gb26 gl26 HG26
              obtain ⟨hx26_0, hf26_0⟩ := Kd.R_celln 0 HO_3.out ((rd t305 x31_3) : Int) p26 q26
              replace p26 := eq_true p26
              replace q26 := eq_true q26
              have HP27 := Kd.R_putg HO_3.out ((rd t305 x31_3) : Int) x23_2
              go_wp2_with (first | ((with_reducible refine gate_store (t := 3) (p := 38) rfl ?_); refine store_event (t := 3) (p := 38) (v := ?vo_w28) (w1 := (wr.setCell ⟨go26, ((rd t305 x31_3) : Int).toNat, none⟩ (.int .i64 x23_2))) ?hg ?ho ?hn ?hr ?_; (case ho => rfl); (case hg => rfl); (case hn => rfl); (case hr => first | (go_simp; done) | (go_simp; rfl)); intro w28 hw; have hg : wr.grownBy w28 (some go26) := (by rw [hw]; exact HP27.2); have hp_ : Kd.R (Kd.int .i64) 3 w28 w.heap.size (fun _ => True) (.slice (some ⟨go26, 0, none⟩) x3_3.length co6) y309 := (by rw [hw, Ny309.out]; exact HP27.1); clear HP27; have n0_ := Ad_.mk (hp_); have n1_ := Ad_.mk (Kd.V_afterv (v := (.slice (some ⟨go26, 0, none⟩) x3_3.length co6)) (v1 := (.slice (some ⟨go26, 0, none⟩) x3_3.length co6)) (ok := (fun k_ => k_ ≠ gb304)) (by (with_reducible repeat (first | apply Kd.V_alloc | apply Kd.V_drewN | apply Kd.V_drew)); exact Kd.V_mono HO_29.out (fun _ hk => ⟨hk.2, hk.1⟩)) hg (.inl rfl)); have n2_ := Ad_.mk (blk_grown (g := gb304) (o := .cells #[.int .i64 ((rd_T55 l0 x23_2).f0), .int .i64 ((rd_T55 l0 x23_2).f1), .int .i64 ((rd_T55 l0 x23_2).f2), .int .i64 ((rd_T55 l0 x23_2).f3), .int .i64 ((rd_T55 l0 x23_2).f4), .string ((rd_T55 l0 x23_2).f5), .string ((rd_T55 l0 x23_2).f6)] 55 (0, 0)) (by (with_reducible repeat (first | refine kN_ ?_ _ | refine k1_ ?_ | refine kA_ ?_ _)); exact BK304.out) hg (Kd.R_ne HO_3.out BK304.out (by decide))); have n3_ := Ad_.mk ((by rw [hw]; exact bS_ (HB.out) GB26.out : Below w.heap.size w w28)); clear HO_3; clear HO_29; clear BK304; clear HB; have HO_3 := n0_; have HO_29 := n1_; have BK304 := n2_; have HB := n3_; clear n0_ n1_ n2_ n3_; clear hg hw hp_))
              (try simp only [← hl3_3])
              go_roundg k3
              case measure => have := HK1.out; have := HK2.out; have := HK3.out; omega
              case rel => exact ⟨(y309), (wrap64 (x31_3 + 1)), fs_, H', ⟨by have := HK1.out; have := HK2.out; have := HK3.out; omega⟩, ⟨by (try simp only [hl3_1]); (try simp only [hl3_2]); (try simp only [hl3_3]); (with_reducible repeat (first | apply Kd.R_alloc | apply Kd.R_drewN | apply Kd.R_drew)); exact HO_3.out⟩, ⟨by (try simp only [hl3_1]); (try simp only [hl3_2]); (try simp only [hl3_3]); (with_reducible repeat (first | apply Kd.V_alloc | apply Kd.V_drewN | apply Kd.V_drew)); exact Kd.V_mono HO_29.out (fun _ hk => ⟨hk.2, hk.1⟩)⟩, ⟨by (try simp only [hl3_1]); (try simp only [hl3_2]); (try simp only [hl3_3]); (with_reducible repeat (first | refine kN_ ?_ _ | refine k1_ ?_ | refine kA_ ?_ _)); exact BK304.out⟩, ⟨by repeat (with_reducible first | exact HB.out | apply bA_ | apply bN_ | apply b1_ | refine bS_ ?_ GE304.out)⟩⟩
end Go.Proofs.YtfmlamheflbgdaaDoor.PAll
end
section
namespace Go.Proofs.YtfmlamheflbgdaaDoor.PAll
open Go.RowKit Go.Proofs.YtfmlamheflbgdaaDoorW.PrintWords Go.Proofs.YtfmlamheflbgdaaDoorW.PrintLast Go.Proofs.YtfmlamheflbgdaaDoorW.PrintMore
attribute [local go_sem] max2_int min2_int max_two min_two max_three min_three max_four min_four
set_option linter.unusedVariables false
set_option linter.unusedSimpArgs false
mutual
def impl_bindsIn.j0 : Nat → Int → Bool → Int → Int → Int → Int → Int → ByteArray → ByteArray → Option (List ByteArray × List Int)
  | 0, _, _, _, _, _, _, _, _, _ => none
  | k + 1, x1, x6, x800000, x800001, x800002, x800003, x800004, x800005, x800006 => if x6 = true then (some ((([x800005] : List ByteArray)), (([0] : List Int)))) else (if x800000 = 6 then (impl_bindsIn.j1 k x1 (x1 == x800001) x800000 x800001 x800002 x800003 x800004 x800005 x800006) else (impl_bindsIn.j1 k x1 false x800000 x800001 x800002 x800003 x800004 x800005 x800006))
def impl_bindsIn.j1 : Nat → Int → Bool → Int → Int → Int → Int → Int → ByteArray → ByteArray → Option (List ByteArray × List Int)
  | 0, _, _, _, _, _, _, _, _, _ => none
  | k + 1, x1, x28, x800000, x800001, x800002, x800003, x800004, x800005, x800006 => if x28 = true then (impl_bindsIn.j2 k x28 x800000 x800001 x800002 x800003 x800004 x800005 x800006) else (if x800000 = 14 then (impl_bindsIn.j2 k (x1 == x800003) x800000 x800001 x800002 x800003 x800004 x800005 x800006) else (impl_bindsIn.j2 k false x800000 x800001 x800002 x800003 x800004 x800005 x800006))
def impl_bindsIn.j2 : Nat → Bool → Int → Int → Int → Int → Int → ByteArray → ByteArray → Option (List ByteArray × List Int)
  | 0, _, _, _, _, _, _, _, _ => none
  | k + 1, x28, x800000, x800001, x800002, x800003, x800004, x800005, x800006 => if x28 = true then (some ((([x800006, x800005] : List ByteArray)), (([1, 0] : List Int)))) else (if x800000 = 6 then (some ((([x800005] : List ByteArray)), (([0] : List Int)))) else (some (([] : List ByteArray), ([] : List Int))))
end
def impl_bindsIn.f (k : Nat) (a0_0 : Int) (a0_1 : Int) (a0_2 : Int) (a0_3 : Int) (a0_4 : Int) (a0_5 : ByteArray) (a0_6 : ByteArray) (a1 : Int) : Option (List ByteArray × List Int) := if a0_0 = 3 then (impl_bindsIn.j0 k a1 (a0_0 == 3) a0_0 a0_1 a0_2 a0_3 a0_4 a0_5 a0_6) else (if a0_0 = 5 then (impl_bindsIn.j0 k a1 (a1 == a0_2) a0_0 a0_1 a0_2 a0_3 a0_4 a0_5 a0_6) else (if a0_0 = 19 then (impl_bindsIn.j0 k a1 (a1 == a0_2) a0_0 a0_1 a0_2 a0_3 a0_4 a0_5 a0_6) else (impl_bindsIn.j0 k a1 false a0_0 a0_1 a0_2 a0_3 a0_4 a0_5 a0_6)))
theorem impl_bindsIn.mono_l : ∀ k, (∀ y0 y1 y2 y3 y4 y5 y6 y7 y8, LeO (impl_bindsIn.j0 k y0 y1 y2 y3 y4 y5 y6 y7 y8) (impl_bindsIn.j0 (k + 1) y0 y1 y2 y3 y4 y5 y6 y7 y8)) ∧ (∀ y0 y1 y2 y3 y4 y5 y6 y7 y8, LeO (impl_bindsIn.j1 k y0 y1 y2 y3 y4 y5 y6 y7 y8) (impl_bindsIn.j1 (k + 1) y0 y1 y2 y3 y4 y5 y6 y7 y8)) ∧ (∀ y0 y1 y2 y3 y4 y5 y6 y7, LeO (impl_bindsIn.j2 k y0 y1 y2 y3 y4 y5 y6 y7) (impl_bindsIn.j2 (k + 1) y0 y1 y2 y3 y4 y5 y6 y7))
  | 0 => ⟨fun _ _ _ _ _ _ _ _ _ r h => by simp [impl_bindsIn.j0] at h, fun _ _ _ _ _ _ _ _ _ r h => by simp [impl_bindsIn.j1] at h, fun _ _ _ _ _ _ _ _ r h => by simp [impl_bindsIn.j2] at h⟩
  | k + 1 => by
    obtain ⟨ih0, ih1, ih2⟩ := impl_bindsIn.mono_l k
    refine ⟨?_, ?_, ?_⟩
    (intro y0 y1 y2 y3 y4 y5 y6 y7 y8; unfold impl_bindsIn.j0; rotate_left)
    (intro y0 y1 y2 y3 y4 y5 y6 y7 y8; unfold impl_bindsIn.j1; rotate_left)
    (intro y0 y1 y2 y3 y4 y5 y6 y7; unfold impl_bindsIn.j2; rotate_left)
    all_goals
      repeat' first
      | (with_reducible exact ih0 _ _ _ _ _ _ _ _ _)
      | (with_reducible exact ih1 _ _ _ _ _ _ _ _ _)
      | (with_reducible exact ih2 _ _ _ _ _ _ _ _)
      | (with_reducible exact LeO.refl _)
      | (with_reducible exact LeO.none _)
      | (with_reducible refine LeO.ite ?_ ?_)
      | (with_reducible refine LeO.bind ?_ (fun _ => ?_))
      | exact LeO.none _
      | refine LeO.ite ?_ ?_
      | refine LeO.bind ?_ (fun _ => ?_)
theorem impl_bindsIn.mono : ∀ a0 a1 a2 a3 a4 a5 a6 a7 k, LeO (impl_bindsIn.f k a0 a1 a2 a3 a4 a5 a6 a7) (impl_bindsIn.f (k + 1) a0 a1 a2 a3 a4 a5 a6 a7) := by
  intro a0 a1 a2 a3 a4 a5 a6 a7 k
  obtain ⟨ih0, ih1, ih2⟩ := impl_bindsIn.mono_l k
  unfold impl_bindsIn.f
  repeat' first
      | (with_reducible exact ih0 _ _ _ _ _ _ _ _ _)
      | (with_reducible exact ih1 _ _ _ _ _ _ _ _ _)
      | (with_reducible exact ih2 _ _ _ _ _ _ _ _)
      | (with_reducible exact LeO.refl _)
      | (with_reducible exact LeO.none _)
      | (with_reducible refine LeO.ite ?_ ?_)
      | (with_reducible refine LeO.bind ?_ (fun _ => ?_))
      | exact LeO.none _
      | refine LeO.ite ?_ ?_
      | refine LeO.bind ?_ (fun _ => ?_)
set_option maxHeartbeats 8000000 in
set_option maxRecDepth 100000 in
theorem impl_bindsIn.calls (k : Nat) (a0_0 : Int) (a0_1 : Int) (a0_2 : Int) (a0_3 : Int) (a0_4 : Int) (a0_5 : ByteArray) (a0_6 : ByteArray) (a1 : Int) (r1 : List ByteArray) (r2 : List Int) (w : World) (h : impl_bindsIn.f k a0_0 a0_1 a0_2 a0_3 a0_4 a0_5 a0_6 a1 = some (r1, r2)) :
    Calls Tryd.prog 128 #[.agg #[.int .i64 a0_0, .int .i64 a0_1, .int .i64 a0_2, .int .i64 a0_3, .int .i64 a0_4, .string a0_5, .string a0_6], .int .i64 a1] w fun e w' => ∃ v0_ v1_ : Value, e = .returned (.tuple #[v0_, v1_]) ∧ Kd.R Kd.string 9 w' w.heap.size (fun _ => True) v0_ r1 ∧ Kd.R (Kd.int .i64) 3 w' w.heap.size (fun _ => True) v1_ r2 ∧ Below w.heap.size w w' := by
  have hu55 := Tryd.underlying55
  have HB := Ad_.mk (Below.refl w.heap.size w)
  have H := h
  unfold impl_bindsIn.f at H
  clear h
  have HC3 := Ad_.mk H
  clear H
  go_enter Tryd.func128, Tryd.ntmps128
  go_upto_if 6 with (first | ((with_reducible refine gD_ (N := 2) rfl ?_); refine bE_ ?hg (N := 2) ?hd (cs := #[.int .i64 a0_0, .int .i64 a0_1, .int .i64 a0_2, .int .i64 a0_3, .int .i64 a0_4, .string a0_5, .string a0_6]) (t := 55) ?hr ?_; (case hd => rfl); (case hg => rfl); (case hr => first | (go_simp; done) | (go_simp; rfl)); intro gb799 hg w4 hbox hb; have n0_ := Ad_.mk (bP_ (by repeat (with_reducible first | exact HB.out | apply bA_ | apply bN_ | apply b1_)) hb); have n1_ := Ad_.mk (hbox); have n2_ := Ad_.mk ((by rw [hg]; exact (bZ_ (by repeat (with_reducible first | exact HB.out | apply bA_ | apply bN_ | apply b1_))) : w.heap.size ≤ gb799)); have n3_ := Ad_.mk ((by rw [hg]; exact (bZ_ (by repeat (with_reducible first | exact HB.out | apply bA_ | apply bN_ | apply b1_))) : w.heap.size ≤ gb799)); clear HB; have HB := n0_; have BK799 := n1_; have GW799 := n2_; have GE799 := n3_; clear n0_ n1_ n2_ n3_; clear hb hbox hg; obtain ⟨hcz5_0, hcz5_1, hcz5_2, hcz5_3, hcz5_4, hcz5_5, hcz5_6⟩ := cells7_ BK799.out; obtain ⟨hfz5_0, hfz5_1, hfz5_2, hfz5_3, hfz5_4, hfz5_5, hfz5_6⟩ := froz7_ BK799.out))
  (try simp only [Act.put, List.setIfInBounds_toArray, List.set_cons_zero, List.set_cons_succ])
  go_cut [6] (fun v6 wc => ∃ (kq : Nat) (x6_2 : Bool), v6 = .bool x6_2 ∧ Ad_ (impl_bindsIn.j0 kq a1 x6_2 a0_0 a0_1 a0_2 a0_3 a0_4 a0_5 a0_6 = some (r1, r2)) ∧ Ad_ (kq ≤ k) ∧ Ad_ (wc.heap[gb799]? = some (.cells #[.int .i64 a0_0, .int .i64 a0_1, .int .i64 a0_2, .int .i64 a0_3, .int .i64 a0_4, .string a0_5, .string a0_6] 55 (0, 0))) ∧ Ad_ (Below w.heap.size w wc))
  case first =>
    have H := HC3.out
    clear HC3
    by_cases c6 : a0_0 = 3
    ·
     rw [if_pos c6] at H
     have c6b0 : (a0_0 == 3) = true := beq_iff_eq.mpr c6
     have c6b1 : (a0_0 != 3) = false := bne_eq_false_iff_eq.mpr c6
     clear c6
     (first | rw [c6b0] | (simp only [i64_w, i32_w]; rw [c6b0]) | skip)
     have H' := Ad_.mk H
     clear H
     go_wp2
     go_meet
     case rel => exact ⟨_, ((a0_0 == 3)), fs_, H', ⟨by first | omega | exact Nat.le_refl _⟩, ⟨by (with_reducible repeat (first | refine kN_ ?_ _ | refine k1_ ?_ | refine kA_ ?_ _)); exact BK799.out⟩, ⟨by repeat (with_reducible first | exact HB.out | apply bA_ | apply bN_ | apply b1_ | refine bS_ ?_ GE799.out)⟩⟩
    rw [if_neg c6] at H
    have c6b0 : (a0_0 == 3) = false := beq_eq_false_iff_ne.mpr c6
    have c6b1 : (a0_0 != 3) = true := bne_iff_ne.mpr c6
    (first | rw [c6b0] | (simp only [i64_w, i32_w]; rw [c6b0]) | skip)
    by_cases c7 : a0_0 = 5
    ·
     rw [if_pos c7] at H
     have c7b0 : (a0_0 == 5) = true := beq_iff_eq.mpr c7
     have c7b1 : (a0_0 != 5) = false := bne_eq_false_iff_eq.mpr c7
     clear c7
     have H' := Ad_.mk H
     clear H
     obtain ⟨hcz8_0, hcz8_1, hcz8_2, hcz8_3, hcz8_4, hcz8_5, hcz8_6⟩ := cells7_ BK799.out
     obtain ⟨hfz8_0, hfz8_1, hfz8_2, hfz8_3, hfz8_4, hfz8_5, hfz8_6⟩ := froz7_ BK799.out
     go_wp2
     go_meet
     case rel => exact ⟨_, ((a1 == a0_2)), fs_, H', ⟨by first | omega | exact Nat.le_refl _⟩, ⟨by (with_reducible repeat (first | refine kN_ ?_ _ | refine k1_ ?_ | refine kA_ ?_ _)); exact BK799.out⟩, ⟨by repeat (with_reducible first | exact HB.out | apply bA_ | apply bN_ | apply b1_ | refine bS_ ?_ GE799.out)⟩⟩
    rw [if_neg c7] at H
    have c7b0 : (a0_0 == 5) = false := beq_eq_false_iff_ne.mpr c7
    have c7b1 : (a0_0 != 5) = true := bne_iff_ne.mpr c7
    by_cases c9 : a0_0 = 19
    rotate_left
    ·
     rw [if_neg c9] at H
     have c9b0 : (a0_0 == 19) = false := beq_eq_false_iff_ne.mpr c9
     have c9b1 : (a0_0 != 19) = true := bne_iff_ne.mpr c9
     have H' := Ad_.mk H
     clear H
     obtain ⟨hcz11_0, hcz11_1, hcz11_2, hcz11_3, hcz11_4, hcz11_5, hcz11_6⟩ := cells7_ BK799.out
     obtain ⟨hfz11_0, hfz11_1, hfz11_2, hfz11_3, hfz11_4, hfz11_5, hfz11_6⟩ := froz7_ BK799.out
     go_wp2
     go_meet
     case rel => exact ⟨_, (false), fs_, H', ⟨by first | omega | exact Nat.le_refl _⟩, ⟨by (with_reducible repeat (first | refine kN_ ?_ _ | refine k1_ ?_ | refine kA_ ?_ _)); exact BK799.out⟩, ⟨by repeat (with_reducible first | exact HB.out | apply bA_ | apply bN_ | apply b1_ | refine bS_ ?_ GE799.out)⟩⟩
    rw [if_pos c9] at H
    have c9b0 : (a0_0 == 19) = true := beq_iff_eq.mpr c9
    have c9b1 : (a0_0 != 19) = false := bne_eq_false_iff_eq.mpr c9
    clear c9
    have H' := Ad_.mk H
    clear H
    obtain ⟨hcz10_0, hcz10_1, hcz10_2, hcz10_3, hcz10_4, hcz10_5, hcz10_6⟩ := cells7_ BK799.out
    obtain ⟨hfz10_0, hfz10_1, hfz10_2, hfz10_3, hfz10_4, hfz10_5, hfz10_6⟩ := froz7_ BK799.out
    go_wp2
    go_meet
    case rel => exact ⟨_, ((a1 == a0_2)), fs_, H', ⟨by first | omega | exact Nat.le_refl _⟩, ⟨by (with_reducible repeat (first | refine kN_ ?_ _ | refine k1_ ?_ | refine kA_ ?_ _)); exact BK799.out⟩, ⟨by repeat (with_reducible first | exact HB.out | apply bA_ | apply bN_ | apply b1_ | refine bS_ ?_ GE799.out)⟩⟩
  case rest =>
    clear HC3
    try clear p2
    try clear c6b0 c6b1
    try clear c7b0 c7b1
    try clear c9b0 c9b1
    try clear hcz10_0 hcz10_1 hcz10_2 hcz10_3 hcz10_4 hcz10_5 hcz10_6
    try clear hcz11_0 hcz11_1 hcz11_2 hcz11_3 hcz11_4 hcz11_5 hcz11_6
    try clear hcz5_0 hcz5_1 hcz5_2 hcz5_3 hcz5_4 hcz5_5 hcz5_6
    try clear hcz8_0 hcz8_1 hcz8_2 hcz8_3 hcz8_4 hcz8_5 hcz8_6
    try clear hfz10_0 hfz10_1 hfz10_2 hfz10_3 hfz10_4 hfz10_5 hfz10_6
    try clear hfz11_0 hfz11_1 hfz11_2 hfz11_3 hfz11_4 hfz11_5 hfz11_6
    try clear hfz5_0 hfz5_1 hfz5_2 hfz5_3 hfz5_4 hfz5_5 hfz5_6
    try clear hfz8_0 hfz8_1 hfz8_2 hfz8_3 hfz8_4 hfz8_5 hfz8_6
    obtain ⟨kq, x6_2, rfl, HA, HJ2, BK799, HB⟩ := hcut
    cases kq with
    | zero => exact absurd HA.out (by simp [impl_bindsIn.j0])
    | succ kj2 =>
      have H := HA.out
      clear HA
      simp only [impl_bindsIn.j0] at H
      by_cases c12 : x6_2 = true
      ·
       subst c12
       have H1 := H
       rw [if_pos rfl] at H1
       clear H
       have H := H1
       clear H1
       obtain ⟨y800, hy800⟩ : ∃ y_ : List ByteArray, y_ = (([a0_5] : List ByteArray)) := ⟨_, rfl⟩
       replace H : (some (y800, (([0] : List Int)))) = some (r1, r2) := by first | (rw [hy800]; with_reducible exact H) | (have H2_ := (Option.bind_some _ _).symm.trans H; rw [hy800]; with_reducible exact H2_) | (have H2_ := (Option.bind_some _ _).symm.trans H; with_reducible exact H2_) | with_reducible exact H | (rw [hy800]; exact H) | exact H
       have Ny800 := Ad_.mk hy800
       clear hy800
       obtain ⟨y803, hy803⟩ : ∃ y_ : List Int, y_ = (([0] : List Int)) := ⟨_, rfl⟩
       replace H : (some (y800, y803)) = some (r1, r2) := by first | (rw [hy803]; with_reducible exact H) | (have H2_ := (Option.bind_some _ _).symm.trans H; rw [hy803]; with_reducible exact H2_) | (have H2_ := (Option.bind_some _ _).symm.trans H; with_reducible exact H2_) | with_reducible exact H | (rw [hy803]; exact H) | exact H
       have Ny803 := Ad_.mk hy803
       clear hy803
       simp only [Option.some.injEq, Prod.mk.injEq] at H
       obtain ⟨rfl, rfl⟩ := H
       obtain ⟨hcz13_0, hcz13_1, hcz13_2, hcz13_3, hcz13_4, hcz13_5, hcz13_6⟩ := cells7_ BK799.out
       obtain ⟨hfz13_0, hfz13_1, hfz13_2, hfz13_3, hfz13_4, hfz13_5, hfz13_6⟩ := froz7_ BK799.out
       go_wp2_with (first | ((with_reducible refine gD_ (N := 26) rfl ?_); refine Kd.R_lit Kd.string _ 9 ?hg (N := 26) ?hd (xs := ([a0_5] : List ByteArray)) (inner := [.string a0_5]) (ok := fun _ => True) (okp := fun _ => True) ?hr ?hp (fun _ hk => hk) trivial (Below.refl _ _) (Nat.le_refl _) (by simp) ?_; (case hd => rfl); (case hg => rfl); (case hr => first | (go_simp; done) | (go_simp; rfl)); (case hp => exact (Reps.one (show Kd.M Kd.string _ _ _ a0_5 [.string a0_5] from rfl) (Reps.none _ _))); intro v801 w14 ho15 hb hg_ hnew_; clear hg_ hnew_; (first | rw [← Ny800.out] at ho15 | (simp only [Int.reduceToNat] at ho15; rw [← Ny800.out] at ho15)); have n0_ := Ad_.mk (Kd.R_lower ho15 (bZ_ (by repeat (with_reducible first | exact HB.out | apply bA_ | apply bN_ | apply b1_ | refine bS_ ?_ GE799.out)))); have n1_ := Ad_.mk (blk_below (g := gb799) (o := .cells #[.int .i64 a0_0, .int .i64 a0_1, .int .i64 a0_2, .int .i64 a0_3, .int .i64 a0_4, .string a0_5, .string a0_6] 55 (0, 0)) (by (with_reducible repeat (first | refine kN_ ?_ _ | refine k1_ ?_ | refine kA_ ?_ _)); exact BK799.out) hb); have n2_ := Ad_.mk (bP_ (by repeat (with_reducible first | exact HB.out | apply bA_ | apply bN_ | apply b1_ | refine bS_ ?_ GE799.out)) hb); clear BK799; clear HB; have HO802 := n0_; have BK799 := n1_; have HB := n2_; clear n0_ n1_ n2_; clear hb ho15) | ((with_reducible refine gD_ (N := 27) rfl ?_); refine Kd.R_lit (Kd.int .i64) _ 3 ?hg (N := 27) ?hd (xs := ([0] : List Int)) (inner := [.int .i64 0]) (ok := fun _ => True) (okp := fun _ => True) ?hr ?hp (fun _ hk => hk) trivial (Below.refl _ _) (Nat.le_refl _) (by simp) ?_; (case hd => rfl); (case hg => rfl); (case hr => first | (go_simp; done) | (go_simp; rfl)); (case hp => exact (Reps.one (show Kd.M (Kd.int .i64) _ _ _ 0 [.int .i64 0] from rfl) (Reps.none _ _))); intro v804 w16 ho17 hb hg_ hnew_; clear hg_ hnew_; (first | rw [← Ny803.out] at ho17 | (simp only [Int.reduceToNat] at ho17; rw [← Ny803.out] at ho17)); have n0_ := Ad_.mk (Kd.R_below (by (with_reducible repeat (first | apply Kd.R_alloc | apply Kd.R_drewN | apply Kd.R_drew)); exact HO802.out) hb); have n1_ := Ad_.mk (Kd.R_lower ho17 (bZ_ (by repeat (with_reducible first | exact HB.out | apply bA_ | apply bN_ | apply b1_ | refine bS_ ?_ GE799.out)))); have n2_ := Ad_.mk (blk_below (g := gb799) (o := .cells #[.int .i64 a0_0, .int .i64 a0_1, .int .i64 a0_2, .int .i64 a0_3, .int .i64 a0_4, .string a0_5, .string a0_6] 55 (0, 0)) (by (with_reducible repeat (first | refine kN_ ?_ _ | refine k1_ ?_ | refine kA_ ?_ _)); exact BK799.out) hb); have n3_ := Ad_.mk (bP_ (by repeat (with_reducible first | exact HB.out | apply bA_ | apply bN_ | apply b1_ | refine bS_ ?_ GE799.out)) hb); clear HO802; clear BK799; clear HB; have HO802 := n0_; have HO805 := n1_; have BK799 := n2_; have HB := n3_; clear n0_ n1_ n2_ n3_; clear hb ho17))
       go_ret2
       exact ⟨_, _, by first | rfl | (simp [errW_none, errW_some] <;> rfl) | (simp [*, errW_none, errW_some] <;> rfl), by (with_reducible repeat (first | apply Kd.R_alloc | apply Kd.R_drewN | apply Kd.R_drew)); exact HO802.out, by (with_reducible repeat (first | apply Kd.R_alloc | apply Kd.R_drewN | apply Kd.R_drew)); exact HO805.out, by repeat (with_reducible first | exact HB.out | apply bA_ | apply bN_ | apply b1_ | refine bS_ ?_ GE799.out)⟩
      replace c12 := Bool.eq_false_iff.mpr c12
      subst c12
      have H1 : (if a0_0 = 6 then (impl_bindsIn.j1 kj2 a1 (a1 == a0_1) a0_0 a0_1 a0_2 a0_3 a0_4 a0_5 a0_6) else (impl_bindsIn.j1 kj2 a1 false a0_0 a0_1 a0_2 a0_3 a0_4 a0_5 a0_6)) = some (r1, r2) := by rw [if_neg (show ¬ (false = true) by decide)] at H; exact H
      clear H
      have H := H1
      clear H1
      have HC18 := Ad_.mk H
      clear H
      go_upto_region 4 with (fail)
      go_cut [28] (fun v28 wc => ∃ (kq : Nat) (x28_17 : Bool), v28 = .bool x28_17 ∧ Ad_ (impl_bindsIn.j1 kq a1 x28_17 a0_0 a0_1 a0_2 a0_3 a0_4 a0_5 a0_6 = some (r1, r2)) ∧ Ad_ (kq ≤ kj2) ∧ Ad_ (wc.heap[gb799]? = some (.cells #[.int .i64 a0_0, .int .i64 a0_1, .int .i64 a0_2, .int .i64 a0_3, .int .i64 a0_4, .string a0_5, .string a0_6] 55 (0, 0))) ∧ Ad_ (Below w.heap.size w wc))
      case first =>
        have H := HC18.out
        clear HC18
        by_cases c19 : a0_0 = 6
        rotate_left
        ·
         rw [if_neg c19] at H
         have c19b0 : (a0_0 == 6) = false := beq_eq_false_iff_ne.mpr c19
         have c19b1 : (a0_0 != 6) = true := bne_iff_ne.mpr c19
         (first | rw [c19b0] | (simp only [i64_w, i32_w]; rw [c19b0]) | skip)
         have H' := Ad_.mk H
         clear H
         obtain ⟨hcz21_0, hcz21_1, hcz21_2, hcz21_3, hcz21_4, hcz21_5, hcz21_6⟩ := cells7_ BK799.out
         obtain ⟨hfz21_0, hfz21_1, hfz21_2, hfz21_3, hfz21_4, hfz21_5, hfz21_6⟩ := froz7_ BK799.out
         go_wp2
         go_meet
         case rel => exact ⟨_, (false), fs_, H', ⟨by have := HJ2.out; first | omega | exact Nat.le_refl _⟩, ⟨by (with_reducible repeat (first | refine kN_ ?_ _ | refine k1_ ?_ | refine kA_ ?_ _)); exact BK799.out⟩, ⟨by repeat (with_reducible first | exact HB.out | apply bA_ | apply bN_ | apply b1_ | refine bS_ ?_ GE799.out)⟩⟩
        rw [if_pos c19] at H
        have c19b0 : (a0_0 == 6) = true := beq_iff_eq.mpr c19
        have c19b1 : (a0_0 != 6) = false := bne_eq_false_iff_eq.mpr c19
        clear c19
        (first | rw [c19b0] | (simp only [i64_w, i32_w]; rw [c19b0]) | skip)
        have H' := Ad_.mk H
        clear H
        obtain ⟨hcz20_0, hcz20_1, hcz20_2, hcz20_3, hcz20_4, hcz20_5, hcz20_6⟩ := cells7_ BK799.out
        obtain ⟨hfz20_0, hfz20_1, hfz20_2, hfz20_3, hfz20_4, hfz20_5, hfz20_6⟩ := froz7_ BK799.out
        go_wp2
        go_meet
        case rel => exact ⟨_, ((a1 == a0_1)), fs_, H', ⟨by have := HJ2.out; first | omega | exact Nat.le_refl _⟩, ⟨by (with_reducible repeat (first | refine kN_ ?_ _ | refine k1_ ?_ | refine kA_ ?_ _)); exact BK799.out⟩, ⟨by repeat (with_reducible first | exact HB.out | apply bA_ | apply bN_ | apply b1_ | refine bS_ ?_ GE799.out)⟩⟩
      case rest =>
        clear HC18
        try clear p2
        try clear c6b0 c6b1
        try clear c7b0 c7b1
        try clear c9b0 c9b1
        try clear c19b0 c19b1
        try clear hcz10_0 hcz10_1 hcz10_2 hcz10_3 hcz10_4 hcz10_5 hcz10_6
        try clear hcz11_0 hcz11_1 hcz11_2 hcz11_3 hcz11_4 hcz11_5 hcz11_6
        try clear hcz13_0 hcz13_1 hcz13_2 hcz13_3 hcz13_4 hcz13_5 hcz13_6
        try clear hcz20_0 hcz20_1 hcz20_2 hcz20_3 hcz20_4 hcz20_5 hcz20_6
        try clear hcz21_0 hcz21_1 hcz21_2 hcz21_3 hcz21_4 hcz21_5 hcz21_6
        try clear hcz5_0 hcz5_1 hcz5_2 hcz5_3 hcz5_4 hcz5_5 hcz5_6
        try clear hcz8_0 hcz8_1 hcz8_2 hcz8_3 hcz8_4 hcz8_5 hcz8_6
        try clear hfz10_0 hfz10_1 hfz10_2 hfz10_3 hfz10_4 hfz10_5 hfz10_6
        try clear hfz11_0 hfz11_1 hfz11_2 hfz11_3 hfz11_4 hfz11_5 hfz11_6
        try clear hfz13_0 hfz13_1 hfz13_2 hfz13_3 hfz13_4 hfz13_5 hfz13_6
        try clear hfz20_0 hfz20_1 hfz20_2 hfz20_3 hfz20_4 hfz20_5 hfz20_6
        try clear hfz21_0 hfz21_1 hfz21_2 hfz21_3 hfz21_4 hfz21_5 hfz21_6
        try clear hfz5_0 hfz5_1 hfz5_2 hfz5_3 hfz5_4 hfz5_5 hfz5_6
        try clear hfz8_0 hfz8_1 hfz8_2 hfz8_3 hfz8_4 hfz8_5 hfz8_6
        try clear p2
        obtain ⟨kq, x28_17, rfl, HA, HJ17, BK799, HB⟩ := hcut
        cases kq with
        | zero => exact absurd HA.out (by simp [impl_bindsIn.j1])
        | succ kj17 =>
          have H := HA.out
          clear HA
          simp only [impl_bindsIn.j1] at H
          have HC22 := Ad_.mk H
          clear H
          go_upto_if 28 with (fail)
          go_cut [28] (fun v28 wc => ∃ (kq : Nat) (x28_21 : Bool), v28 = .bool x28_21 ∧ Ad_ (impl_bindsIn.j2 kq x28_21 a0_0 a0_1 a0_2 a0_3 a0_4 a0_5 a0_6 = some (r1, r2)) ∧ Ad_ (kq ≤ kj17) ∧ Ad_ (wc.heap[gb799]? = some (.cells #[.int .i64 a0_0, .int .i64 a0_1, .int .i64 a0_2, .int .i64 a0_3, .int .i64 a0_4, .string a0_5, .string a0_6] 55 (0, 0))) ∧ Ad_ (Below w.heap.size w wc))
          case first =>
            have H := HC22.out
            clear HC22
            by_cases c23 : x28_17 = true
            ·
             subst c23
             have H1 := H
             rw [if_pos rfl] at H1
             clear H
             have H := H1
             clear H1
             have H' := Ad_.mk H
             clear H
             go_wp2
             go_meet
             case rel => exact ⟨_, (true), fs_, H', ⟨by have := HJ2.out; have := HJ17.out; first | omega | exact Nat.le_refl _⟩, ⟨by (with_reducible repeat (first | refine kN_ ?_ _ | refine k1_ ?_ | refine kA_ ?_ _)); exact BK799.out⟩, ⟨by repeat (with_reducible first | exact HB.out | apply bA_ | apply bN_ | apply b1_ | refine bS_ ?_ GE799.out)⟩⟩
            replace c23 := Bool.eq_false_iff.mpr c23
            subst c23
            have H1 : (if a0_0 = 14 then (impl_bindsIn.j2 kj17 (a1 == a0_3) a0_0 a0_1 a0_2 a0_3 a0_4 a0_5 a0_6) else (impl_bindsIn.j2 kj17 false a0_0 a0_1 a0_2 a0_3 a0_4 a0_5 a0_6)) = some (r1, r2) := by rw [if_neg (show ¬ (false = true) by decide)] at H; exact H
            clear H
            have H := H1
            clear H1
            by_cases c24 : a0_0 = 14
            rotate_left
            ·
             rw [if_neg c24] at H
             have c24b0 : (a0_0 == 14) = false := beq_eq_false_iff_ne.mpr c24
             have c24b1 : (a0_0 != 14) = true := bne_iff_ne.mpr c24
             (first | rw [c24b0] | (simp only [i64_w, i32_w]; rw [c24b0]) | skip)
             have H' := Ad_.mk H
             clear H
             obtain ⟨hcz26_0, hcz26_1, hcz26_2, hcz26_3, hcz26_4, hcz26_5, hcz26_6⟩ := cells7_ BK799.out
             obtain ⟨hfz26_0, hfz26_1, hfz26_2, hfz26_3, hfz26_4, hfz26_5, hfz26_6⟩ := froz7_ BK799.out
             go_wp2
             go_meet
             case rel => exact ⟨_, (false), fs_, H', ⟨by have := HJ2.out; have := HJ17.out; first | omega | exact Nat.le_refl _⟩, ⟨by (with_reducible repeat (first | refine kN_ ?_ _ | refine k1_ ?_ | refine kA_ ?_ _)); exact BK799.out⟩, ⟨by repeat (with_reducible first | exact HB.out | apply bA_ | apply bN_ | apply b1_ | refine bS_ ?_ GE799.out)⟩⟩
            rw [if_pos c24] at H
            have c24b0 : (a0_0 == 14) = true := beq_iff_eq.mpr c24
            have c24b1 : (a0_0 != 14) = false := bne_eq_false_iff_eq.mpr c24
            clear c24
            (first | rw [c24b0] | (simp only [i64_w, i32_w]; rw [c24b0]) | skip)
            have H' := Ad_.mk H
            clear H
            obtain ⟨hcz25_0, hcz25_1, hcz25_2, hcz25_3, hcz25_4, hcz25_5, hcz25_6⟩ := cells7_ BK799.out
            obtain ⟨hfz25_0, hfz25_1, hfz25_2, hfz25_3, hfz25_4, hfz25_5, hfz25_6⟩ := froz7_ BK799.out
            go_wp2
            go_meet
            case rel => exact ⟨_, ((a1 == a0_3)), fs_, H', ⟨by have := HJ2.out; have := HJ17.out; first | omega | exact Nat.le_refl _⟩, ⟨by (with_reducible repeat (first | refine kN_ ?_ _ | refine k1_ ?_ | refine kA_ ?_ _)); exact BK799.out⟩, ⟨by repeat (with_reducible first | exact HB.out | apply bA_ | apply bN_ | apply b1_ | refine bS_ ?_ GE799.out)⟩⟩
          case rest =>
            clear HC22
            try clear p2
            try clear c6b0 c6b1
            try clear c7b0 c7b1
            try clear c9b0 c9b1
            try clear c19b0 c19b1
            try clear c24b0 c24b1
            try clear hcz10_0 hcz10_1 hcz10_2 hcz10_3 hcz10_4 hcz10_5 hcz10_6
            try clear hcz11_0 hcz11_1 hcz11_2 hcz11_3 hcz11_4 hcz11_5 hcz11_6
            try clear hcz13_0 hcz13_1 hcz13_2 hcz13_3 hcz13_4 hcz13_5 hcz13_6
            try clear hcz20_0 hcz20_1 hcz20_2 hcz20_3 hcz20_4 hcz20_5 hcz20_6
            try clear hcz21_0 hcz21_1 hcz21_2 hcz21_3 hcz21_4 hcz21_5 hcz21_6
            try clear hcz25_0 hcz25_1 hcz25_2 hcz25_3 hcz25_4 hcz25_5 hcz25_6
            try clear hcz26_0 hcz26_1 hcz26_2 hcz26_3 hcz26_4 hcz26_5 hcz26_6
            try clear hcz5_0 hcz5_1 hcz5_2 hcz5_3 hcz5_4 hcz5_5 hcz5_6
            try clear hcz8_0 hcz8_1 hcz8_2 hcz8_3 hcz8_4 hcz8_5 hcz8_6
            try clear hfz10_0 hfz10_1 hfz10_2 hfz10_3 hfz10_4 hfz10_5 hfz10_6
            try clear hfz11_0 hfz11_1 hfz11_2 hfz11_3 hfz11_4 hfz11_5 hfz11_6
            try clear hfz13_0 hfz13_1 hfz13_2 hfz13_3 hfz13_4 hfz13_5 hfz13_6
            try clear hfz20_0 hfz20_1 hfz20_2 hfz20_3 hfz20_4 hfz20_5 hfz20_6
            try clear hfz21_0 hfz21_1 hfz21_2 hfz21_3 hfz21_4 hfz21_5 hfz21_6
            try clear hfz25_0 hfz25_1 hfz25_2 hfz25_3 hfz25_4 hfz25_5 hfz25_6
            try clear hfz26_0 hfz26_1 hfz26_2 hfz26_3 hfz26_4 hfz26_5 hfz26_6
            try clear hfz5_0 hfz5_1 hfz5_2 hfz5_3 hfz5_4 hfz5_5 hfz5_6
            try clear hfz8_0 hfz8_1 hfz8_2 hfz8_3 hfz8_4 hfz8_5 hfz8_6
            try clear p2
            obtain ⟨kq, x28_21, rfl, HA, HJ21, BK799, HB⟩ := hcut
            cases kq with
            | zero => exact absurd HA.out (by simp [impl_bindsIn.j2])
            | succ kj21 =>
              have H := HA.out
              clear HA
              simp only [impl_bindsIn.j2] at H
              by_cases c27 : x28_21 = true
              ·
               subst c27
               have H1 := H
               rw [if_pos rfl] at H1
               clear H
               have H := H1
               clear H1
               obtain ⟨y806, hy806⟩ : ∃ y_ : List ByteArray, y_ = (([a0_6, a0_5] : List ByteArray)) := ⟨_, rfl⟩
               replace H : (some (y806, (([1, 0] : List Int)))) = some (r1, r2) := by first | (rw [hy806]; with_reducible exact H) | (have H2_ := (Option.bind_some _ _).symm.trans H; rw [hy806]; with_reducible exact H2_) | (have H2_ := (Option.bind_some _ _).symm.trans H; with_reducible exact H2_) | with_reducible exact H | (rw [hy806]; exact H) | exact H
               have Ny806 := Ad_.mk hy806
               clear hy806
               obtain ⟨y809, hy809⟩ : ∃ y_ : List Int, y_ = (([1, 0] : List Int)) := ⟨_, rfl⟩
               replace H : (some (y806, y809)) = some (r1, r2) := by first | (rw [hy809]; with_reducible exact H) | (have H2_ := (Option.bind_some _ _).symm.trans H; rw [hy809]; with_reducible exact H2_) | (have H2_ := (Option.bind_some _ _).symm.trans H; with_reducible exact H2_) | with_reducible exact H | (rw [hy809]; exact H) | exact H
               have Ny809 := Ad_.mk hy809
               clear hy809
               simp only [Option.some.injEq, Prod.mk.injEq] at H
               obtain ⟨rfl, rfl⟩ := H
               obtain ⟨hcz28_0, hcz28_1, hcz28_2, hcz28_3, hcz28_4, hcz28_5, hcz28_6⟩ := cells7_ BK799.out
               obtain ⟨hfz28_0, hfz28_1, hfz28_2, hfz28_3, hfz28_4, hfz28_5, hfz28_6⟩ := froz7_ BK799.out
               go_wp2_with (first | ((with_reducible refine gD_ (N := 51) rfl ?_); refine Kd.R_lit Kd.string _ 9 ?hg (N := 51) ?hd (xs := ([a0_6, a0_5] : List ByteArray)) (inner := [.string a0_6, .string a0_5]) (ok := fun _ => True) (okp := fun _ => True) ?hr ?hp (fun _ hk => hk) trivial (Below.refl _ _) (Nat.le_refl _) (by simp) ?_; (case hd => rfl); (case hg => rfl); (case hr => first | (go_simp; done) | (go_simp; rfl)); (case hp => exact (Reps.one (show Kd.M Kd.string _ _ _ a0_6 [.string a0_6] from rfl) (Reps.one (show Kd.M Kd.string _ _ _ a0_5 [.string a0_5] from rfl) (Reps.none _ _)))); intro v807 w29 ho30 hb hg_ hnew_; clear hg_ hnew_; (first | rw [← Ny806.out] at ho30 | (simp only [Int.reduceToNat] at ho30; rw [← Ny806.out] at ho30)); have n0_ := Ad_.mk (Kd.R_lower ho30 (bZ_ (by repeat (with_reducible first | exact HB.out | apply bA_ | apply bN_ | apply b1_ | refine bS_ ?_ GE799.out)))); have n1_ := Ad_.mk (blk_below (g := gb799) (o := .cells #[.int .i64 a0_0, .int .i64 a0_1, .int .i64 a0_2, .int .i64 a0_3, .int .i64 a0_4, .string a0_5, .string a0_6] 55 (0, 0)) (by (with_reducible repeat (first | refine kN_ ?_ _ | refine k1_ ?_ | refine kA_ ?_ _)); exact BK799.out) hb); have n2_ := Ad_.mk (bP_ (by repeat (with_reducible first | exact HB.out | apply bA_ | apply bN_ | apply b1_ | refine bS_ ?_ GE799.out)) hb); clear BK799; clear HB; have HO808 := n0_; have BK799 := n1_; have HB := n2_; clear n0_ n1_ n2_; clear hb ho30) | ((with_reducible refine gD_ (N := 52) rfl ?_); refine Kd.R_lit (Kd.int .i64) _ 3 ?hg (N := 52) ?hd (xs := ([1, 0] : List Int)) (inner := [.int .i64 1, .int .i64 0]) (ok := fun _ => True) (okp := fun _ => True) ?hr ?hp (fun _ hk => hk) trivial (Below.refl _ _) (Nat.le_refl _) (by simp) ?_; (case hd => rfl); (case hg => rfl); (case hr => first | (go_simp; done) | (go_simp; rfl)); (case hp => exact (Reps.one (show Kd.M (Kd.int .i64) _ _ _ 1 [.int .i64 1] from rfl) (Reps.one (show Kd.M (Kd.int .i64) _ _ _ 0 [.int .i64 0] from rfl) (Reps.none _ _)))); intro v810 w31 ho32 hb hg_ hnew_; clear hg_ hnew_; (first | rw [← Ny809.out] at ho32 | (simp only [Int.reduceToNat] at ho32; rw [← Ny809.out] at ho32)); have n0_ := Ad_.mk (Kd.R_below (by (with_reducible repeat (first | apply Kd.R_alloc | apply Kd.R_drewN | apply Kd.R_drew)); exact HO808.out) hb); have n1_ := Ad_.mk (Kd.R_lower ho32 (bZ_ (by repeat (with_reducible first | exact HB.out | apply bA_ | apply bN_ | apply b1_ | refine bS_ ?_ GE799.out)))); have n2_ := Ad_.mk (blk_below (g := gb799) (o := .cells #[.int .i64 a0_0, .int .i64 a0_1, .int .i64 a0_2, .int .i64 a0_3, .int .i64 a0_4, .string a0_5, .string a0_6] 55 (0, 0)) (by (with_reducible repeat (first | refine kN_ ?_ _ | refine k1_ ?_ | refine kA_ ?_ _)); exact BK799.out) hb); have n3_ := Ad_.mk (bP_ (by repeat (with_reducible first | exact HB.out | apply bA_ | apply bN_ | apply b1_ | refine bS_ ?_ GE799.out)) hb); clear HO808; clear BK799; clear HB; have HO808 := n0_; have HO811 := n1_; have BK799 := n2_; have HB := n3_; clear n0_ n1_ n2_ n3_; clear hb ho32))
               go_ret2
               exact ⟨_, _, by first | rfl | (simp [errW_none, errW_some] <;> rfl) | (simp [*, errW_none, errW_some] <;> rfl), by (with_reducible repeat (first | apply Kd.R_alloc | apply Kd.R_drewN | apply Kd.R_drew)); exact HO808.out, by (with_reducible repeat (first | apply Kd.R_alloc | apply Kd.R_drewN | apply Kd.R_drew)); exact HO811.out, by repeat (with_reducible first | exact HB.out | apply bA_ | apply bN_ | apply b1_ | refine bS_ ?_ GE799.out)⟩
              replace c27 := Bool.eq_false_iff.mpr c27
              subst c27
              have H1 : (if a0_0 = 6 then (some ((([a0_5] : List ByteArray)), (([0] : List Int)))) else (some (([] : List ByteArray), ([] : List Int)))) = some (r1, r2) := by rw [if_neg (show ¬ (false = true) by decide)] at H; exact H
              clear H
              have H := H1
              clear H1
              by_cases c33 : a0_0 = 6
              rotate_left
              ·
               rw [if_neg c33] at H
               have c33b0 : (a0_0 == 6) = false := beq_eq_false_iff_ne.mpr c33
               have c33b1 : (a0_0 != 6) = true := bne_iff_ne.mpr c33
               simp only [Option.some.injEq, Prod.mk.injEq] at H
               obtain ⟨rfl, rfl⟩ := H
               obtain ⟨hcz39_0, hcz39_1, hcz39_2, hcz39_3, hcz39_4, hcz39_5, hcz39_6⟩ := cells7_ BK799.out
               obtain ⟨hfz39_0, hfz39_1, hfz39_2, hfz39_3, hfz39_4, hfz39_5, hfz39_6⟩ := froz7_ BK799.out
               go_wp2
               go_ret2
               exact ⟨_, _, by first | rfl | (simp [errW_none, errW_some] <;> rfl) | (simp [*, errW_none, errW_some] <;> rfl), by first | exact Kd.R_nil _ _ _ _ _ | exact Kd.N_nil _ _ _ _ _ | exact Kd.V_nil _ _ _ _ _ | exact Kd.Q_nil _ _ _ _ _ | exact Kd.S_nil _ _ _ _ _, by first | exact Kd.R_nil _ _ _ _ _ | exact Kd.N_nil _ _ _ _ _ | exact Kd.V_nil _ _ _ _ _ | exact Kd.Q_nil _ _ _ _ _ | exact Kd.S_nil _ _ _ _ _, by repeat (with_reducible first | exact HB.out | apply bA_ | apply bN_ | apply b1_ | refine bS_ ?_ GE799.out)⟩
              rw [if_pos c33] at H
              have c33b0 : (a0_0 == 6) = true := beq_iff_eq.mpr c33
              have c33b1 : (a0_0 != 6) = false := bne_eq_false_iff_eq.mpr c33
              clear c33
              obtain ⟨y812, hy812⟩ : ∃ y_ : List ByteArray, y_ = (([a0_5] : List ByteArray)) := ⟨_, rfl⟩
              replace H : (some (y812, (([0] : List Int)))) = some (r1, r2) := by first | (rw [hy812]; with_reducible exact H) | (have H2_ := (Option.bind_some _ _).symm.trans H; rw [hy812]; with_reducible exact H2_) | (have H2_ := (Option.bind_some _ _).symm.trans H; with_reducible exact H2_) | with_reducible exact H | (rw [hy812]; exact H) | exact H
              have Ny812 := Ad_.mk hy812
              clear hy812
              obtain ⟨y815, hy815⟩ : ∃ y_ : List Int, y_ = (([0] : List Int)) := ⟨_, rfl⟩
              replace H : (some (y812, y815)) = some (r1, r2) := by first | (rw [hy815]; with_reducible exact H) | (have H2_ := (Option.bind_some _ _).symm.trans H; rw [hy815]; with_reducible exact H2_) | (have H2_ := (Option.bind_some _ _).symm.trans H; with_reducible exact H2_) | with_reducible exact H | (rw [hy815]; exact H) | exact H
              have Ny815 := Ad_.mk hy815
              clear hy815
              simp only [Option.some.injEq, Prod.mk.injEq] at H
              obtain ⟨rfl, rfl⟩ := H
              obtain ⟨hcz34_0, hcz34_1, hcz34_2, hcz34_3, hcz34_4, hcz34_5, hcz34_6⟩ := cells7_ BK799.out
              obtain ⟨hfz34_0, hfz34_1, hfz34_2, hfz34_3, hfz34_4, hfz34_5, hfz34_6⟩ := froz7_ BK799.out
              go_wp2_with (first | ((with_reducible refine gD_ (N := 59) rfl ?_); refine Kd.R_lit Kd.string _ 9 ?hg (N := 59) ?hd (xs := ([a0_5] : List ByteArray)) (inner := [.string a0_5]) (ok := fun _ => True) (okp := fun _ => True) ?hr ?hp (fun _ hk => hk) trivial (Below.refl _ _) (Nat.le_refl _) (by simp) ?_; (case hd => rfl); (case hg => rfl); (case hr => first | (go_simp; done) | (go_simp; rfl)); (case hp => exact (Reps.one (show Kd.M Kd.string _ _ _ a0_5 [.string a0_5] from rfl) (Reps.none _ _))); intro v813 w35 ho36 hb hg_ hnew_; clear hg_ hnew_; (first | rw [← Ny812.out] at ho36 | (simp only [Int.reduceToNat] at ho36; rw [← Ny812.out] at ho36)); have n0_ := Ad_.mk (Kd.R_lower ho36 (bZ_ (by repeat (with_reducible first | exact HB.out | apply bA_ | apply bN_ | apply b1_ | refine bS_ ?_ GE799.out)))); have n1_ := Ad_.mk (blk_below (g := gb799) (o := .cells #[.int .i64 a0_0, .int .i64 a0_1, .int .i64 a0_2, .int .i64 a0_3, .int .i64 a0_4, .string a0_5, .string a0_6] 55 (0, 0)) (by (with_reducible repeat (first | refine kN_ ?_ _ | refine k1_ ?_ | refine kA_ ?_ _)); exact BK799.out) hb); have n2_ := Ad_.mk (bP_ (by repeat (with_reducible first | exact HB.out | apply bA_ | apply bN_ | apply b1_ | refine bS_ ?_ GE799.out)) hb); clear BK799; clear HB; have HO814 := n0_; have BK799 := n1_; have HB := n2_; clear n0_ n1_ n2_; clear hb ho36) | ((with_reducible refine gD_ (N := 60) rfl ?_); refine Kd.R_lit (Kd.int .i64) _ 3 ?hg (N := 60) ?hd (xs := ([0] : List Int)) (inner := [.int .i64 0]) (ok := fun _ => True) (okp := fun _ => True) ?hr ?hp (fun _ hk => hk) trivial (Below.refl _ _) (Nat.le_refl _) (by simp) ?_; (case hd => rfl); (case hg => rfl); (case hr => first | (go_simp; done) | (go_simp; rfl)); (case hp => exact (Reps.one (show Kd.M (Kd.int .i64) _ _ _ 0 [.int .i64 0] from rfl) (Reps.none _ _))); intro v816 w37 ho38 hb hg_ hnew_; clear hg_ hnew_; (first | rw [← Ny815.out] at ho38 | (simp only [Int.reduceToNat] at ho38; rw [← Ny815.out] at ho38)); have n0_ := Ad_.mk (Kd.R_below (by (with_reducible repeat (first | apply Kd.R_alloc | apply Kd.R_drewN | apply Kd.R_drew)); exact HO814.out) hb); have n1_ := Ad_.mk (Kd.R_lower ho38 (bZ_ (by repeat (with_reducible first | exact HB.out | apply bA_ | apply bN_ | apply b1_ | refine bS_ ?_ GE799.out)))); have n2_ := Ad_.mk (blk_below (g := gb799) (o := .cells #[.int .i64 a0_0, .int .i64 a0_1, .int .i64 a0_2, .int .i64 a0_3, .int .i64 a0_4, .string a0_5, .string a0_6] 55 (0, 0)) (by (with_reducible repeat (first | refine kN_ ?_ _ | refine k1_ ?_ | refine kA_ ?_ _)); exact BK799.out) hb); have n3_ := Ad_.mk (bP_ (by repeat (with_reducible first | exact HB.out | apply bA_ | apply bN_ | apply b1_ | refine bS_ ?_ GE799.out)) hb); clear HO814; clear BK799; clear HB; have HO814 := n0_; have HO817 := n1_; have BK799 := n2_; have HB := n3_; clear n0_ n1_ n2_ n3_; clear hb ho38))
              go_ret2
              exact ⟨_, _, by first | rfl | (simp [errW_none, errW_some] <;> rfl) | (simp [*, errW_none, errW_some] <;> rfl), by (with_reducible repeat (first | apply Kd.R_alloc | apply Kd.R_drewN | apply Kd.R_drew)); exact HO814.out, by (with_reducible repeat (first | apply Kd.R_alloc | apply Kd.R_drewN | apply Kd.R_drew)); exact HO817.out, by repeat (with_reducible first | exact HB.out | apply bA_ | apply bN_ | apply b1_ | refine bS_ ?_ GE799.out)⟩
end Go.Proofs.YtfmlamheflbgdaaDoor.PAll
end
section
namespace Go.Proofs.YtfmlamheflbgdaaDoor.PAll
open Go.RowKit Go.Proofs.YtfmlamheflbgdaaDoorW.PrintWords Go.Proofs.YtfmlamheflbgdaaDoorW.PrintLast Go.Proofs.YtfmlamheflbgdaaDoorW.PrintMore
attribute [local go_sem] max2_int min2_int max_two min_two max_three min_three max_four min_four
set_option linter.unusedVariables false
set_option linter.unusedSimpArgs false
mutual
def impl_binderOf.l0 : Nat → List (S55) → List Int → Int → ByteArray → Option (Int × Int)
  | 0, _, _, _, _ => none
  | k + 1, x0, x1, x2, x3 => if 0 ≤ x2 then (if x2 < (x1.length : Int) then (if (rd x1 x2) ≥ 0 then (if 0 ≤ (rd x1 x2) then (if (rd x1 x2) < (x0.length : Int) then ((impl_bindsIn.f k ((rd_T55 x0 (rd x1 x2)).f0) ((rd_T55 x0 (rd x1 x2)).f1) ((rd_T55 x0 (rd x1 x2)).f2) ((rd_T55 x0 (rd x1 x2)).f3) ((rd_T55 x0 (rd x1 x2)).f4) ((rd_T55 x0 (rd x1 x2)).f5) ((rd_T55 x0 (rd x1 x2)).f6) x2).bind fun bt822 => (impl_binderOf.l1 k x0 x1 x2 x3 bt822.2 bt822.1 (bt822.1.length : Int) 0)) else (none)) else (none)) else (some ((-1), (-1)))) else (none)) else (none)
def impl_binderOf.l1 : Nat → List (S55) → List Int → Int → ByteArray → List Int → List ByteArray → Int → Int → Option (Int × Int)
  | 0, _, _, _, _, _, _, _, _ => none
  | k + 1, x0, x1, x2, x3, x10, x30, x31, x32 => if x32 < x31 then (if 0 ≤ x32 then (if x32 < (x30.length : Int) then (if (rdOf ByteArray.empty x30 x32).toList = x3.toList then (if 0 ≤ x2 then (if x2 < (x1.length : Int) then (if x32 < (x10.length : Int) then (some (rd x1 x2, rd x10 x32)) else (none)) else (none)) else (none)) else (impl_binderOf.l1 k x0 x1 x2 x3 x10 x30 x31 (wrap64 (x32 + 1)))) else (none)) else (none)) else (if 0 ≤ x2 then (if x2 < (x1.length : Int) then (impl_binderOf.l0 k x0 x1 (rd x1 x2) x3) else (none)) else (none))
end
def impl_binderOf.f (k : Nat) (l0 : List (S55)) (l1 : List Int) (a2 : Int) (a3 : ByteArray) : Option (Int × Int) := impl_binderOf.l0 k l0 l1 a2 a3
theorem impl_binderOf.mono_l : ∀ k, (∀ y0 y1 y2 y3, LeO (impl_binderOf.l0 k y0 y1 y2 y3) (impl_binderOf.l0 (k + 1) y0 y1 y2 y3)) ∧ (∀ y0 y1 y2 y3 y4 y5 y6 y7, LeO (impl_binderOf.l1 k y0 y1 y2 y3 y4 y5 y6 y7) (impl_binderOf.l1 (k + 1) y0 y1 y2 y3 y4 y5 y6 y7))
  | 0 => ⟨fun _ _ _ _ r h => by simp [impl_binderOf.l0] at h, fun _ _ _ _ _ _ _ _ r h => by simp [impl_binderOf.l1] at h⟩
  | k + 1 => by
    obtain ⟨ih0, ih1⟩ := impl_binderOf.mono_l k
    refine ⟨?_, ?_⟩
    (intro y0 y1 y2 y3; unfold impl_binderOf.l0; rotate_left)
    (intro y0 y1 y2 y3 y4 y5 y6 y7; unfold impl_binderOf.l1; rotate_left)
    all_goals
      repeat' first
      | (with_reducible exact ih0 _ _ _ _)
      | (with_reducible exact ih1 _ _ _ _ _ _ _ _)
      | (with_reducible exact impl_bindsIn.mono _ _ _ _ _ _ _ _ _)
      | (with_reducible exact LeO.refl _)
      | (with_reducible exact LeO.none _)
      | (with_reducible refine LeO.ite ?_ ?_)
      | (with_reducible refine LeO.bind ?_ (fun _ => ?_))
      | exact LeO.none _
      | refine LeO.ite ?_ ?_
      | refine LeO.bind ?_ (fun _ => ?_)
theorem impl_binderOf.mono : ∀ a0 a1 a2 a3 k, LeO (impl_binderOf.f k a0 a1 a2 a3) (impl_binderOf.f (k + 1) a0 a1 a2 a3) := by
  intro a0 a1 a2 a3 k
  obtain ⟨ih0, ih1⟩ := impl_binderOf.mono_l k
  unfold impl_binderOf.f
  repeat' first
      | (with_reducible exact ih0 _ _ _ _)
      | (with_reducible exact ih1 _ _ _ _ _ _ _ _)
      | (with_reducible exact impl_bindsIn.mono _ _ _ _ _ _ _ _ _)
      | (with_reducible exact LeO.refl _)
      | (with_reducible exact LeO.none _)
      | (with_reducible refine LeO.ite ?_ ?_)
      | (with_reducible refine LeO.bind ?_ (fun _ => ?_))
      | exact LeO.none _
      | refine LeO.ite ?_ ?_
      | refine LeO.bind ?_ (fun _ => ?_)
def impl_binderOf.T7 : Bool × List (List Nat × List Nat) := (true, [([], []), ([], []), ([0, 1], [0, 1]), ([2], [2]), ([], []), ([], []), ([4, 5], [4, 5]), ([6], [6]), ([3, 7], [3, 7]), ([8, 0, 1, 2, 3, 4, 5, 6, 7, 8], [8])])
def impl_binderOf.B7 : List Nat := [0, 0, 3, 7, 0, 0, 48, 112, 255, 511]
theorem impl_binderOf.tab7 : rtab .any (opsOf Tryd.f111 7) = impl_binderOf.T7 := by kernel_rfl
theorem impl_binderOf.bits7 : waitsOk impl_binderOf.T7.2 impl_binderOf.B7 = true := by kernel_rfl
set_option maxHeartbeats 8000000 in
set_option maxRecDepth 100000 in
theorem impl_binderOf.calls (k : Nat) (A0 : Option Addr) (c0 : Nat) (l0 : List (S55)) (A1 : Option Addr) (c1 : Nat) (l1 : List Int) (a2 : Int) (a3 : ByteArray) (r1 : Int) (r2 : Int) (w : World) (hr0 : Kd.C k55 w A0 l0.length l0) (hc0 : l0.length ≤ c0) (hr1 : Kd.C (Kd.int .i64) w A1 l1.length l1) (hc1 : l1.length ≤ c1) (h : impl_binderOf.f k l0 l1 a2 a3 = some (r1, r2)) :
    Calls Tryd.prog 111 #[.slice A0 l0.length c0, .slice A1 l1.length c1, .int .i64 a2, .string a3] w fun e w' => e = .returned (.agg #[.int .i64 r1, .int .i64 r2]) ∧ Below w.heap.size w w' := by
  have hu59 := Tryd.underlying59
  have hu55 := Tryd.underlying55
  have HR0 := Ad_.mk hr0
  have HC0 := Ad_.mk hc0
  clear hr0 hc0
  have HR1 := Ad_.mk hr1
  have HC1 := Ad_.mk hc1
  clear hr1 hc1
  have HB := Ad_.mk (Below.refl w.heap.size w)
  have H : (impl_binderOf.l0 k l0 l1 a2 a3) = some (r1, r2) := h
  clear h
  have H' := Ad_.mk H
  clear H
  go_enter Tryd.func111, Tryd.ntmps111
  go_wp2_with (first | ((with_reducible refine gD_ (N := 8) rfl ?_); refine bE_ ?hg (N := 8) ?hd (cs := #[.int .i64 0, .int .i64 0]) (t := 59) ?hr ?_; (case hd => rfl); (case hg => rfl); (case hr => first | (go_simp; done) | (go_simp; rfl)); intro gb818 hg w5 hbox hb; have n0_ := Ad_.mk (bP_ (by repeat (with_reducible first | exact HB.out | apply bA_ | apply bN_ | apply b1_)) hb); have n1_ := Ad_.mk (hbox); have n2_ := Ad_.mk ((by rw [hg]; exact (bZ_ (by repeat (with_reducible first | exact HB.out | apply bA_ | apply bN_ | apply b1_))) : w.heap.size ≤ gb818)); have n3_ := Ad_.mk ((by rw [hg]; exact (bZ_ (by repeat (with_reducible first | exact HB.out | apply bA_ | apply bN_ | apply b1_))) : w.heap.size ≤ gb818)); clear HB; have HB := n0_; have BK818 := n1_; have GW818 := n2_; have GE818 := n3_; clear n0_ n1_ n2_ n3_; clear hb hbox hg))
  (try simp only [Act.put, List.setIfInBounds_toArray, List.set_cons_zero, List.set_cons_succ])
  go_loopg [2] k (fun kq v2 w' => ∃ (x2_1 : Int) (x819000_1 : Int) (x819001_1 : Int), v2 = .int .i64 x2_1 ∧ Ad_ (impl_binderOf.l0 kq l0 l1 x2_1 a3 = some (r1, r2)) ∧ Ad_ (kq ≤ k) ∧ Ad_ (w'.heap[gb818]? = some (.cells #[.int .i64 x819000_1, .int .i64 x819001_1] 59 (0, 0))) ∧ Ad_ (Below w.heap.size w w'))
  case atStart => exact ⟨(a2), (0), (0), fs_, H', ⟨Nat.le_refl _⟩, ⟨by (with_reducible repeat (first | refine kN_ ?_ _ | refine k1_ ?_ | refine kA_ ?_ _)); exact BK818.out⟩, ⟨by repeat (with_reducible first | exact HB.out | apply bA_ | apply bN_ | apply b1_ | refine bS_ ?_ GE818.out)⟩⟩
  case round =>
    clear H'
    try clear p2
    obtain ⟨x2_1, x819000_1, x819001_1, rfl, HA, HK1, BK818, HB⟩ := hrel
    cases gk with
    | zero => exact absurd HA.out (by simp [impl_binderOf.l0])
    | succ k1 =>
      have H := HA.out
      clear HA
      simp only [impl_binderOf.l0] at H
      by_cases c6 : 0 ≤ x2_1
      rotate_left
      ·
       rw [if_neg c6] at H
       exact absurd H (by simp)
      rw [if_pos c6] at H
      have c6b0 := decide_eq_true c6
      clear c6
      by_cases c7 : x2_1 < (l1.length : Int)
      rotate_left
      ·
       rw [if_neg c7] at H
       exact absurd H (by simp)
      rw [if_pos c7] at H
      have c7b0 := decide_eq_true c7
      clear c7
      by_cases c8 : (rd l1 x2_1) ≥ 0
      rotate_left
      ·
       rw [if_neg c8] at H
       have c8b0 := decide_eq_false c8
       clear c8
       simp only [Option.some.injEq, Prod.mk.injEq] at H
       obtain ⟨rfl, rfl⟩ := H
       have p819 : 0 ≤ (x2_1 : Int) := od_
       have q819 : x2_1 < (l1.length : Int) := od_
       obtain ⟨ad819, e819, hx819_0⟩ := Kd.at_int HR1.out x2_1 p819 q819
       cases e819
       replace hx819_0 := pB_ HB.out hx819_0
       replace p819 := eq_true p819
       replace q819 := eq_true q819
       obtain ⟨hcz27_0, hcz27_1⟩ := cells2_ BK818.out
       obtain ⟨hfz27_0, hfz27_1⟩ := froz2_ BK818.out
       go_wp2
       refine bodyPost_ret (results_cell_row rfl _ _ gb818 59 #[.int .i64 (-1), .int .i64 (-1)] (0, 0) _ rfl (by (with_reducible repeat (first | refine kN_ ?_ _ | refine k1_ ?_ | refine kA_ ?_ _)); refine blk_put (cs := #[.int .i64 (-1), .int .i64 x819001_1]) ?_ 1 _ rfl; (with_reducible repeat (first | refine kN_ ?_ _ | refine k1_ ?_ | refine kA_ ?_ _)); refine blk_put (cs := #[.int .i64 x819000_1, .int .i64 x819001_1]) ?_ 0 _ rfl; (with_reducible repeat (first | refine kN_ ?_ _ | refine k1_ ?_ | refine kA_ ?_ _)); exact BK818.out) Tryd.underlying59 rfl (by kernel_rfl)) rfl ?_
       exact ⟨by first | rfl | (simp [errW_none, errW_some] <;> rfl) | (simp [*, errW_none, errW_some] <;> rfl), by repeat (with_reducible first | exact HB.out | apply bA_ | apply bN_ | apply b1_ | refine bS_ ?_ GE818.out)⟩
      rw [if_pos c8] at H
      have c8b0 := decide_eq_true c8
      clear c8
      by_cases c9 : 0 ≤ (rd l1 x2_1)
      rotate_left
      ·
       rw [if_neg c9] at H
       exact absurd H (by simp)
      rw [if_pos c9] at H
      have c9b0 := decide_eq_true c9
      clear c9
      by_cases c10 : (rd l1 x2_1) < (l0.length : Int)
      rotate_left
      ·
       rw [if_neg c10] at H
       exact absurd H (by simp)
      rw [if_pos c10] at H
      have c10b0 := decide_eq_true c10
      clear c10
      replace H := Option.bind_eq_some_iff.mp H
      obtain ⟨⟨t822, t825⟩, A110, H⟩ := H
      try dsimp only at H
      have A11 := Ad_.mk A110
      clear A110
      have H' := Ad_.mk H
      clear H
      have p819 : 0 ≤ (x2_1 : Int) := od_
      have q819 : x2_1 < (l1.length : Int) := od_
      obtain ⟨ad819, e819, hx819_0⟩ := Kd.at_int HR1.out x2_1 p819 q819
      cases e819
      replace hx819_0 := pB_ HB.out hx819_0
      replace p819 := eq_true p819
      replace q819 := eq_true q819
      have p820 : 0 ≤ (x2_1 : Int) := od_
      have q820 : x2_1 < (l1.length : Int) := od_
      obtain ⟨ad820, e820, hx820_0⟩ := Kd.at_int HR1.out x2_1 p820 q820
      obtain rfl : ad819 = ad820 := (by injection e820)
      replace hx820_0 := pB_ HB.out hx820_0
      replace p820 := eq_true p820
      replace q820 := eq_true q820
      have p821 : 0 ≤ ((rd l1 x2_1) : Int) := od_
      have q821 : (rd l1 x2_1) < (l0.length : Int) := od_
      obtain ⟨ad821, e821, hx821_0, hx821_1, hx821_2, hx821_3, hx821_4, hx821_5, hx821_6⟩ := at_T55 HR0.out (rd l1 x2_1) p821 q821
      cases e821
      replace hx821_0 := pB_ HB.out hx821_0
      replace hx821_1 := pB_ HB.out hx821_1
      replace hx821_2 := pB_ HB.out hx821_2
      replace hx821_3 := pB_ HB.out hx821_3
      replace hx821_4 := pB_ HB.out hx821_4
      replace hx821_5 := pB_ HB.out hx821_5
      replace hx821_6 := pB_ HB.out hx821_6
      replace p821 := eq_true p821
      replace q821 := eq_true q821
      go_wp2_with (first | ((with_reducible refine gC_ (f := 128) rfl ?_); refine gM_ (some 27) rfl rfl Tryd.func128 (by kernel_rfl) rfl #[.agg #[.int .i64 ((rd_T55 l0 (rd l1 x2_1)).f0), .int .i64 ((rd_T55 l0 (rd l1 x2_1)).f1), .int .i64 ((rd_T55 l0 (rd l1 x2_1)).f2), .int .i64 ((rd_T55 l0 (rd l1 x2_1)).f3), .int .i64 ((rd_T55 l0 (rd l1 x2_1)).f4), .string ((rd_T55 l0 (rd l1 x2_1)).f5), .string ((rd_T55 l0 (rd l1 x2_1)).f6)], .int .i64 x2_1] rfl ?_; (with_reducible refine (impl_bindsIn.calls k1 ((rd_T55 l0 (rd l1 x2_1)).f0) ((rd_T55 l0 (rd l1 x2_1)).f1) ((rd_T55 l0 (rd l1 x2_1)).f2) ((rd_T55 l0 (rd l1 x2_1)).f3) ((rd_T55 l0 (rd l1 x2_1)).f4) ((rd_T55 l0 (rd l1 x2_1)).f5) ((rd_T55 l0 (rd l1 x2_1)).f6) x2_1 t822 t825 _ A11.out).mono ?_); rintro e w12 ⟨v823, v826, rfl, ho0, ho1, hb⟩; refine ⟨_, rfl, ?_⟩; have n0_ := Ad_.mk (Kd.R_lower ho0 (bZ_ (by repeat (with_reducible first | exact HB.out | apply bA_ | apply bN_ | apply b1_ | refine bS_ ?_ GE818.out)))); have n1_ := Ad_.mk (Kd.R_lower ho1 (bZ_ (by repeat (with_reducible first | exact HB.out | apply bA_ | apply bN_ | apply b1_ | refine bS_ ?_ GE818.out)))); have n2_ := Ad_.mk (blk_below (g := gb818) (o := .cells #[.int .i64 x819000_1, .int .i64 x819001_1] 59 (0, 0)) (by (with_reducible repeat (first | refine kN_ ?_ _ | refine k1_ ?_ | refine kA_ ?_ _)); exact BK818.out) hb); have n3_ := Ad_.mk (bP_ (by repeat (with_reducible first | exact HB.out | apply bA_ | apply bN_ | apply b1_ | refine bS_ ?_ GE818.out)) hb); clear BK818; clear HB; have HO824 := n0_; have HO827 := n1_; have BK818 := n2_; have HB := n3_; clear n0_ n1_ n2_ n3_; (try clear hb); (try clear hb2); (try clear hk); (try clear hi); (try clear ho0); (try clear ho1); obtain ⟨Ao13, co13, eo13⟩ := Kd.R_slice HO824.out; subst eo13))
      (try simp only [Act.put, List.setIfInBounds_toArray, List.set_cons_zero, List.set_cons_succ])
      go_loopg [32] k1 (fun kq v32 w' => ∃ (x32_2 : Int) (x819000_2 : Int) (x819001_2 : Int), v32 = .int .i64 x32_2 ∧ Ad_ (impl_binderOf.l1 kq l0 l1 x2_1 a3 t825 t822 (t822.length : Int) x32_2 = some (r1, r2)) ∧ Ad_ (kq ≤ k1) ∧ Ad_ (Kd.R (Kd.int .i64) 3 w' w.heap.size (fun _ => True) v826 t825) ∧ Ad_ (Kd.R Kd.string 9 w' w.heap.size (fun _ => True) (.slice Ao13 t822.length co13) t822) ∧ Ad_ (w'.heap[gb818]? = some (.cells #[.int .i64 x819000_2, .int .i64 x819001_2] 59 (0, 0))) ∧ Ad_ (Below w.heap.size w w'))
      case atStart => exact ⟨(0), (x819000_1), (x819001_1), fs_, H', ⟨Nat.le_refl _⟩, ⟨by (with_reducible repeat (first | apply Kd.R_alloc | apply Kd.R_drewN | apply Kd.R_drew)); exact HO827.out⟩, ⟨by (with_reducible repeat (first | apply Kd.R_alloc | apply Kd.R_drewN | apply Kd.R_drew)); exact HO824.out⟩, ⟨by (with_reducible repeat (first | refine kN_ ?_ _ | refine k1_ ?_ | refine kA_ ?_ _)); exact BK818.out⟩, ⟨by repeat (with_reducible first | exact HB.out | apply bA_ | apply bN_ | apply b1_ | refine bS_ ?_ GE818.out)⟩⟩
      case round =>
        clear H'
        try clear p2
        try clear c6b0
        try clear c7b0
        try clear c8b0
        try clear p8
        try clear q8
        try clear hx8
        try clear c9b0
        try clear c10b0
        try clear hx819_0
        try clear hx820_0
        try clear hx821_0
        try clear hx821_1
        try clear hx821_2
        try clear hx821_3
        try clear hx821_4
        try clear hx821_5
        try clear hx821_6
        try clear p2
        try clear p819
        try clear p820
        try clear p821
        try clear q819
        try clear q820
        try clear q821
        obtain ⟨x32_2, x819000_2, x819001_2, rfl, HA, HK2, HO_10, HO_30, BK818, HB⟩ := hrel
        cases gk with
        | zero => exact absurd HA.out (by simp [impl_binderOf.l1])
        | succ k2 =>
          have H := HA.out
          clear HA
          simp only [impl_binderOf.l1] at H
          by_cases c14 : x32_2 < (t822.length : Int)
          rotate_left
          ·
           rw [if_neg c14] at H
           have c14b0 := decide_eq_false c14
           clear c14
           by_cases c25 : 0 ≤ x2_1
           rotate_left
           ·
            rw [if_neg c25] at H
            exact absurd H (by simp)
           rw [if_pos c25] at H
           have c25b0 := decide_eq_true c25
           clear c25
           by_cases c26 : x2_1 < (l1.length : Int)
           rotate_left
           ·
            rw [if_neg c26] at H
            exact absurd H (by simp)
           rw [if_pos c26] at H
           have c26b0 := decide_eq_true c26
           clear c26
           have H' := Ad_.mk H
           clear H
           have p831 : 0 ≤ (x2_1 : Int) := od_
           have q831 : x2_1 < (l1.length : Int) := od_
           obtain ⟨ad831, e831, hx831_0⟩ := Kd.at_int HR1.out x2_1 p831 q831
           obtain rfl : ad819 = ad831 := (by injection e831)
           replace hx831_0 := pB_ HB.out hx831_0
           replace p831 := eq_true p831
           replace q831 := eq_true q831
           go_wp2
           go_roundg k2
           case measure => have := HK1.out; have := HK2.out; omega
           case rel => exact ⟨(rd l1 x2_1), (x819000_2), (x819001_2), fs_, H', ⟨by have := HK1.out; have := HK2.out; omega⟩, ⟨by (with_reducible repeat (first | refine kN_ ?_ _ | refine k1_ ?_ | refine kA_ ?_ _)); exact BK818.out⟩, ⟨by repeat (with_reducible first | exact HB.out | apply bA_ | apply bN_ | apply b1_ | refine bS_ ?_ GE818.out)⟩⟩
          rw [if_pos c14] at H
          have c14b0 := decide_eq_true c14
          clear c14
          by_cases c15 : 0 ≤ x32_2
          rotate_left
          ·
           rw [if_neg c15] at H
           exact absurd H (by simp)
          rw [if_pos c15] at H
          have c15b0 := decide_eq_true c15
          clear c15
          by_cases c16 : x32_2 < (t822.length : Int)
          rotate_left
          ·
           rw [if_neg c16] at H
           exact absurd H (by simp)
          rw [if_pos c16] at H
          have c16b0 := decide_eq_true c16
          clear c16
          by_cases c17 : (rdOf ByteArray.empty t822 x32_2).toList = a3.toList
          rotate_left
          ·
           rw [if_neg c17] at H
           have c17b0 : ((rdOf ByteArray.empty t822 x32_2).toList == a3.toList) = false := beq_eq_false_iff_ne.mpr c17
           have c17b1 : ((rdOf ByteArray.empty t822 x32_2).toList != a3.toList) = true := bne_iff_ne.mpr c17
           have H' := Ad_.mk H
           clear H
           have p828 : 0 ≤ (x32_2 : Int) := od_
           have q828 : x32_2 < (t822.length : Int) := od_
           obtain ⟨ad828, e828, hx828_0⟩ := Kd.at_string (Kd.R_reads' HO_30.out).2.2 x32_2 p828 q828
           cases e828
           replace p828 := eq_true p828
           replace q828 := eq_true q828
           go_wp2
           go_roundg k2
           case measure => have := HK1.out; have := HK2.out; omega
           case rel => exact ⟨(wrap64 (x32_2 + 1)), (x819000_2), (x819001_2), fs_, H', ⟨by have := HK1.out; have := HK2.out; omega⟩, ⟨by (with_reducible repeat (first | apply Kd.R_alloc | apply Kd.R_drewN | apply Kd.R_drew)); exact HO_10.out⟩, ⟨by (with_reducible repeat (first | apply Kd.R_alloc | apply Kd.R_drewN | apply Kd.R_drew)); exact HO_30.out⟩, ⟨by (with_reducible repeat (first | refine kN_ ?_ _ | refine k1_ ?_ | refine kA_ ?_ _)); exact BK818.out⟩, ⟨by repeat (with_reducible first | exact HB.out | apply bA_ | apply bN_ | apply b1_ | refine bS_ ?_ GE818.out)⟩⟩
          rw [if_pos c17] at H
          have c17b0 : ((rdOf ByteArray.empty t822 x32_2).toList == a3.toList) = true := beq_iff_eq.mpr c17
          have c17b1 : ((rdOf ByteArray.empty t822 x32_2).toList != a3.toList) = false := bne_eq_false_iff_eq.mpr c17
          clear c17
          by_cases c18 : 0 ≤ x2_1
          rotate_left
          ·
           rw [if_neg c18] at H
           exact absurd H (by simp)
          rw [if_pos c18] at H
          have c18b0 := decide_eq_true c18
          clear c18
          by_cases c19 : x2_1 < (l1.length : Int)
          rotate_left
          ·
           rw [if_neg c19] at H
           exact absurd H (by simp)
          rw [if_pos c19] at H
          have c19b0 := decide_eq_true c19
          clear c19
          by_cases c20 : x32_2 < (t825.length : Int)
          rotate_left
          ·
           rw [if_neg c20] at H
           exact absurd H (by simp)
          rw [if_pos c20] at H
          have c20b0 := decide_eq_true c20
          clear c20
          simp only [Option.some.injEq, Prod.mk.injEq] at H
          obtain ⟨rfl, rfl⟩ := H
          have p828 : 0 ≤ (x32_2 : Int) := od_
          have q828 : x32_2 < (t822.length : Int) := od_
          obtain ⟨ad828, e828, hx828_0⟩ := Kd.at_string (Kd.R_reads' HO_30.out).2.2 x32_2 p828 q828
          cases e828
          replace p828 := eq_true p828
          replace q828 := eq_true q828
          try go_wp2
          have n0_ := Ad_.mk (Kd.R_drew HO_10.out)
          have n1_ := Ad_.mk (Kd.R_drew HO_30.out)
          have n2_ := Ad_.mk (k1_ BK818.out)
          have n3_ := Ad_.mk (b1_ HB.out)
          clear HO_10
          clear HO_30
          clear BK818
          clear HB
          have HO_10 := n0_
          have HO_30 := n1_
          have BK818 := n2_
          have HB := n3_
          clear n0_ n1_ n2_ n3_
          have p829 : 0 ≤ (x2_1 : Int) := od_
          have q829 : x2_1 < (l1.length : Int) := od_
          obtain ⟨ad829, e829, hx829_0⟩ := Kd.at_int HR1.out x2_1 p829 q829
          have hw829_0 := hx829_0
          obtain rfl : ad819 = ad829 := (by injection e829)
          replace hx829_0 := pB_ HB.out hx829_0
          replace p829 := eq_true p829
          replace q829 := eq_true q829
          obtain ⟨Ao22, co22, eo22⟩ := Kd.R_slice HO_10.out
          (first | subst eo22 | (injection eo22 with f1_ f2_ f3_; have f4_ := f1_.symm; have f5_ := f3_.symm; clear f1_ f2_ f3_; subst f4_; subst f5_))
          have p830 : 0 ≤ (x32_2 : Int) := od_
          have q830 : x32_2 < (t825.length : Int) := od_
          obtain ⟨ad830, e830, hx830_0⟩ := Kd.at_int (Kd.R_reads' HO_10.out).2.2 x32_2 p830 q830
          cases e830
          replace p830 := eq_true p830
          replace q830 := eq_true q830
          refine start_ (n := 10) (S := fun w' => w'.cell? (ad819.add (x2_1).toNat) = some (.int .i64 (rd l1 x2_1)) ∧ w'.cell? (ad830.add (x32_2).toNat) = some (.int .i64 (rd t825 x32_2))) (ds := []) #[fb_,fb_,fb_,fb_,fb_,fb_,fb_,fb_,fb_,fb_] (by kernel_rfl) rfl rfl ⟨((HB.out.cell (World.block_lt_of_cell? w _ hw829_0)).trans hw829_0), hx830_0⟩ (fun hHeld => ?_); refine with_tabW impl_binderOf.tab7 impl_binderOf.bits7 (fun HT_ HW_ => ?_)
          generalize wr.drew = w21 at HO_10 HO_30 BK818 HB hx829_0 hx830_0 hHeld ⊢
          refine pure_ (i := 0) (N := some 40) (v := ?_) (a' := ?_) #[tb_,fb_,fb_,fb_,fb_,fb_,fb_,fb_,fb_,fb_] rfl rfl (any_of HT_.out (by kernel_rfl)) (fun _ _ _ h => h) (Or.inl ⟨by rfl, ?_⟩) ?_ ?_
          rotate_left
          ·
           intro w'
           go_simp
           with_reducible rfl
          rotate_left
          ·
           simp only [Act.put, List.setIfInBounds_toArray, List.set_cons_zero, List.set_cons_succ, i64_w, i32_w]
           rfl
          refine pure_ (i := 1) (N := some 41) (v := ?_) (a' := ?_) #[tb_,tb_,fb_,fb_,fb_,fb_,fb_,fb_,fb_,fb_] rfl rfl (any_of HT_.out (by kernel_rfl)) (fun _ _ _ h => h) (Or.inl ⟨by rfl, ?_⟩) ?_ ?_
          rotate_left
          ·
           intro w'
           go_simp
           with_reducible rfl
          rotate_left
          ·
           simp only [Act.put, List.setIfInBounds_toArray, List.set_cons_zero, List.set_cons_succ, i64_w, i32_w]
           rfl
          refine pure_ (i := 2) (N := some 42) (v := ?_) (a' := ?_) #[tb_,tb_,tb_,fb_,fb_,fb_,fb_,fb_,fb_,fb_] rfl rfl (any_of HT_.out (by kernel_rfl)) (fun _ _ _ h => h) (Or.inl ⟨by rfl, ?_⟩) ?_ ?_
          rotate_left
          ·
           intro w'
           go_simp
           with_reducible rfl
          rotate_left
          ·
           simp only [Act.put, List.setIfInBounds_toArray, List.set_cons_zero, List.set_cons_succ, i64_w, i32_w]
           rfl
          refine pure_ (i := 4) (N := some 44) (v := ?_) (a' := ?_) #[tb_,tb_,tb_,fb_,tb_,fb_,fb_,fb_,fb_,fb_] rfl rfl (any_of HT_.out (by kernel_rfl)) (fun _ _ _ h => h) (Or.inl ⟨by rfl, ?_⟩) ?_ ?_
          rotate_left
          ·
           intro w'
           go_simp
           with_reducible rfl
          rotate_left
          ·
           simp only [Act.put, List.setIfInBounds_toArray, List.set_cons_zero, List.set_cons_succ, i64_w, i32_w]
           rfl
          refine pure_ (i := 5) (N := some 45) (v := ?_) (a' := ?_) #[tb_,tb_,tb_,fb_,tb_,tb_,fb_,fb_,fb_,fb_] rfl rfl (any_of HT_.out (by kernel_rfl)) (fun _ _ _ h => h) (Or.inl ⟨by rfl, ?_⟩) ?_ ?_
          rotate_left
          ·
           intro w'
           go_simp
           with_reducible rfl
          rotate_left
          ·
           simp only [Act.put, List.setIfInBounds_toArray, List.set_cons_zero, List.set_cons_succ, i64_w, i32_w]
           rfl
          refine pure_ (i := 6) (N := some 46) (v := ?_) (a' := ?_) #[tb_,tb_,tb_,fb_,tb_,tb_,tb_,fb_,fb_,fb_] rfl rfl (any_of HT_.out (by kernel_rfl)) (fun _ _ _ h => h) (Or.inl ⟨by rfl, ?_⟩) ?_ ?_
          rotate_left
          ·
           intro w'
           go_simp
           with_reducible rfl
          rotate_left
          ·
           simp only [Act.put, List.setIfInBounds_toArray, List.set_cons_zero, List.set_cons_succ, i64_w, i32_w]
           rfl
          refine take_ (i := 3) (N := some 43) (v := ?_) (a' := ?_) #[tb_,tb_,tb_,tb_,tb_,tb_,tb_,fb_,fb_,fb_] rfl rfl (take_ofW HT_.out HW_.out (by kernel_rfl)) (fun _ _ _ h => h) (Or.inl ⟨by rfl, ?_⟩) hHeld ?_ ?_
          rotate_left
          ·
           rintro w' ⟨s0, s1⟩
           go_simp
           with_reducible rfl
          rotate_left
          ·
           simp only [Act.put, List.setIfInBounds_toArray, List.set_cons_zero, List.set_cons_succ, i64_w, i32_w]
           rfl
          refine take_ (i := 7) (N := some 47) (v := ?_) (a' := ?_) #[tb_,tb_,tb_,tb_,tb_,tb_,tb_,tb_,fb_,fb_] rfl rfl (take_ofW HT_.out HW_.out (by kernel_rfl)) (fun _ _ _ h => h) (Or.inl ⟨by rfl, ?_⟩) hHeld ?_ ?_
          rotate_left
          ·
           rintro w' ⟨s0, s1⟩
           go_simp
           with_reducible rfl
          rotate_left
          ·
           simp only [Act.put, List.setIfInBounds_toArray, List.set_cons_zero, List.set_cons_succ, i64_w, i32_w]
           rfl
          refine pure_ (i := 8) (N := some 48) (v := ?_) (a' := ?_) #[tb_,tb_,tb_,tb_,tb_,tb_,tb_,tb_,tb_,fb_] rfl rfl (any_of HT_.out (by kernel_rfl)) (fun _ _ _ h => h) (Or.inl ⟨by rfl, ?_⟩) ?_ ?_
          rotate_left
          ·
           intro w'
           go_simp
           with_reducible rfl
          rotate_left
          ·
           simp only [Act.put, List.setIfInBounds_toArray, List.set_cons_zero, List.set_cons_succ, i64_w, i32_w]
           rfl
          refine one_ (i := 9) (N := none) #[tb_,tb_,tb_,tb_,tb_,tb_,tb_,tb_,tb_,tb_] rfl rfl (one_of HT_.out (by kernel_rfl)) (by decide) (fun K hK => ?_)
          have hs23 : w21.cell? ⟨gb818, 0, none⟩ = some (.int .i64 x819000_2) := (kC_ BK818.out 0).trans rfl
          have hfs23 := kF_ BK818.out 0
          have hs24 : w21.cell? ⟨gb818, 1, none⟩ = some (.int .i64 x819001_2) := (kC_ BK818.out 1).trans rfl
          have hfs24 := kF_ BK818.out 1
          refine skip_ (w1 := ?_) (by rfl) rfl ?_ ?_
          rotate_left
          ·
           go_simp
           rfl
          refine hK.out _ _ ⟨((cell_far (p := ⟨gb818, _, none⟩) (by first | exact Nat.ne_of_lt (Nat.lt_of_lt_of_le (by have := World.block_lt_of_cell? _ _ hw829_0; first | rwa [add_block] at this | exact this) GW818.out) | (rw [add_block]; exact Nat.ne_of_lt (Nat.lt_of_lt_of_le (by have := World.block_lt_of_cell? _ _ hw829_0; first | rwa [add_block] at this | exact this) GW818.out)) | (show (Addr.add _ _).block ≠ _; rw [add_block]; exact Nat.ne_of_lt (Nat.lt_of_lt_of_le (by have := World.block_lt_of_cell? _ _ hw829_0; first | rwa [add_block] at this | exact this) GW818.out)) | (dsimp only; exact Nat.ne_of_lt (Nat.lt_of_lt_of_le (by have := World.block_lt_of_cell? _ _ hw829_0; first | rwa [add_block] at this | exact this) GW818.out))) _).trans (((cell_far (p := ⟨gb818, _, none⟩) (by first | exact Nat.ne_of_lt (Nat.lt_of_lt_of_le (by have := World.block_lt_of_cell? _ _ hw829_0; first | rwa [add_block] at this | exact this) GW818.out) | (rw [add_block]; exact Nat.ne_of_lt (Nat.lt_of_lt_of_le (by have := World.block_lt_of_cell? _ _ hw829_0; first | rwa [add_block] at this | exact this) GW818.out)) | (show (Addr.add _ _).block ≠ _; rw [add_block]; exact Nat.ne_of_lt (Nat.lt_of_lt_of_le (by have := World.block_lt_of_cell? _ _ hw829_0; first | rwa [add_block] at this | exact this) GW818.out)) | (dsimp only; exact Nat.ne_of_lt (Nat.lt_of_lt_of_le (by have := World.block_lt_of_cell? _ _ hw829_0; first | rwa [add_block] at this | exact this) GW818.out))) _).trans (hHeld.1)))), ((cell_far (p := ⟨gb818, _, none⟩) (by first | exact Kd.own_blk (Kd.R_ne HO_10.out BK818.out (by decide)) | (rw [add_block]; exact Kd.own_blk (Kd.R_ne HO_10.out BK818.out (by decide))) | (show (Addr.add _ _).block ≠ _; rw [add_block]; exact Kd.own_blk (Kd.R_ne HO_10.out BK818.out (by decide))) | (dsimp only; exact Kd.own_blk (Kd.R_ne HO_10.out BK818.out (by decide)))) _).trans (((cell_far (p := ⟨gb818, _, none⟩) (by first | exact Kd.own_blk (Kd.R_ne HO_10.out BK818.out (by decide)) | (rw [add_block]; exact Kd.own_blk (Kd.R_ne HO_10.out BK818.out (by decide))) | (show (Addr.add _ _).block ≠ _; rw [add_block]; exact Kd.own_blk (Kd.R_ne HO_10.out BK818.out (by decide))) | (dsimp only; exact Kd.own_blk (Kd.R_ne HO_10.out BK818.out (by decide)))) _).trans (hHeld.2))))⟩ (fun hHeld => ?_)
          clear hK K
          refine done_ (done_of HT_.out (by kernel_rfl)) ?_
          try go_wp2
          refine bodyPost_ret (results_cell_row rfl _ _ gb818 59 #[.int .i64 (rd l1 x2_1), .int .i64 (rd t825 x32_2)] (0, 0) _ rfl (by (with_reducible repeat (first | refine kN_ ?_ _ | refine k1_ ?_ | refine kA_ ?_ _)); refine blk_put (cs := #[.int .i64 (rd l1 x2_1), .int .i64 x819001_2]) ?_ 1 _ rfl; (with_reducible repeat (first | refine kN_ ?_ _ | refine k1_ ?_ | refine kA_ ?_ _)); refine blk_put (cs := #[.int .i64 x819000_2, .int .i64 x819001_2]) ?_ 0 _ rfl; (with_reducible repeat (first | refine kN_ ?_ _ | refine k1_ ?_ | refine kA_ ?_ _)); exact BK818.out) Tryd.underlying59 rfl (by kernel_rfl)) rfl ?_
          exact ⟨by first | rfl | (simp [errW_none, errW_some] <;> rfl) | (simp [*, errW_none, errW_some] <;> rfl), by repeat (with_reducible first | exact HB.out | apply bA_ | apply bN_ | apply b1_ | refine bS_ ?_ GE818.out)⟩
end Go.Proofs.YtfmlamheflbgdaaDoor.PAll
end
section
namespace Go.Proofs.YtfmlamheflbgdaaDoor.PAll
open Go.RowKit Go.Proofs.YtfmlamheflbgdaaDoorW.PrintWords Go.Proofs.YtfmlamheflbgdaaDoorW.PrintLast Go.Proofs.YtfmlamheflbgdaaDoorW.PrintMore
attribute [local go_sem] max2_int min2_int max_two min_two max_three min_three max_four min_four
set_option linter.unusedVariables false
set_option linter.unusedSimpArgs false
def impl_binders.l0 : Nat → List (S55) → List Int → List (S59) → List (S55) → Int → Int → Option ((List (S59)))
  | 0, _, _, _, _, _, _ => none
  | k + 1, x0, x3, x4, x10, x11, x12 => if x12 < x11 then (if 0 ≤ x12 then (if x12 < (x10.length : Int) then (if ((rd_T55 x10 x12).f0) = 1 then ((impl_binderOf.f k x0 x3 x12 ((rd_T55 x10 x12).f5)).bind fun bt838 => (if x4.length < 8796093022208 then (impl_binders.l0 k x0 x3 (x4 ++ [(⟨bt838.1, bt838.2⟩ : S59)]) x10 x11 (wrap64 (x12 + 1))) else (none))) else (if x4.length < 8796093022208 then (impl_binders.l0 k x0 x3 (x4 ++ [(⟨(-1), (-1)⟩ : S59)]) x10 x11 (wrap64 (x12 + 1))) else (none))) else (none)) else (none)) else (some x4)
def impl_binders.f (k : Nat) (l0 : List (S55)) : Option ((List (S59))) := (impl_parents.f k l0).bind fun t832 => (impl_binders.l0 k l0 t832 ([] : List (S59)) l0 (l0.length : Int) 0)
theorem impl_binders.mono_l : ∀ k, (∀ y0 y1 y2 y3 y4 y5, LeO (impl_binders.l0 k y0 y1 y2 y3 y4 y5) (impl_binders.l0 (k + 1) y0 y1 y2 y3 y4 y5))
  | 0 => fun _ _ _ _ _ _ r h => by simp [impl_binders.l0] at h
  | k + 1 => by
    have ih0 := impl_binders.mono_l k
    · intro y0 y1 y2 y3 y4 y5
      unfold impl_binders.l0
      repeat' first
      | (with_reducible exact ih0 _ _ _ _ _ _)
      | (with_reducible exact impl_binderOf.mono _ _ _ _ _)
      | (with_reducible exact impl_parents.mono _ _)
      | (with_reducible exact LeO.refl _)
      | (with_reducible exact LeO.none _)
      | (with_reducible refine LeO.ite ?_ ?_)
      | (with_reducible refine LeO.bind ?_ (fun _ => ?_))
      | exact LeO.none _
      | refine LeO.ite ?_ ?_
      | refine LeO.bind ?_ (fun _ => ?_)
theorem impl_binders.mono : ∀ a0 k, LeO (impl_binders.f k a0) (impl_binders.f (k + 1) a0) := by
  intro a0 k
  have ih0 := impl_binders.mono_l k
  unfold impl_binders.f
  repeat' first
      | (with_reducible exact ih0 _ _ _ _ _ _)
      | (with_reducible exact impl_binderOf.mono _ _ _ _ _)
      | (with_reducible exact impl_parents.mono _ _)
      | (with_reducible exact LeO.refl _)
      | (with_reducible exact LeO.none _)
      | (with_reducible refine LeO.ite ?_ ?_)
      | (with_reducible refine LeO.bind ?_ (fun _ => ?_))
      | exact LeO.none _
      | refine LeO.ite ?_ ?_
      | refine LeO.bind ?_ (fun _ => ?_)
set_option maxHeartbeats 8000000 in
set_option maxRecDepth 100000 in
theorem impl_binders.calls (k : Nat) (A0 : Option Addr) (c0 : Nat) (l0 : List (S55)) (r : List (S59)) (w : World) (hr0 : Kd.C k55 w A0 l0.length l0) (hc0 : l0.length ≤ c0) (h : impl_binders.f k l0 = some r) :
    Calls Tryd.prog 87 #[.slice A0 l0.length c0] w fun e w' => ∃ v0_ : Value, e = .returned (v0_) ∧ Kd.R k59 59 w' w.heap.size (fun _ => True) v0_ r ∧ Below w.heap.size w w' := by
  have hu55 := Tryd.underlying55
  have hu59 := Tryd.underlying59
  have HR0 := Ad_.mk hr0
  have HC0 := Ad_.mk hc0
  clear hr0 hc0
  have HB := Ad_.mk (Below.refl w.heap.size w)
  have H := h
  unfold impl_binders.f at H
  clear h
  replace H := Option.bind_eq_some_iff.mp H
  obtain ⟨t832, A20, H⟩ := H
  try dsimp only at H
  have A2 := Ad_.mk A20
  clear A20
  have H' := Ad_.mk H
  clear H
  go_enter Tryd.func87, Tryd.ntmps87
  go_wp2_with (first | ((with_reducible refine gC_ (f := 73) rfl ?_); refine gM_ (some 9) rfl rfl Tryd.func73 (by kernel_rfl) rfl #[.slice A0 l0.length c0] rfl ?_; (with_reducible refine (impl_parents.calls k _ _ l0 t832 _ ?side1 ?side2 A2.out).mono ?_); (case side1 => repeat (first | exact HR0.out | (with_reducible refine Kd.C_alloc ?_ _) | (with_reducible refine Kd.C_drewN ?_ _) | (with_reducible refine Kd.C_drew ?_))); (case side2 => exact HC0.out); rintro e w3 ⟨v833, rfl, ho0, hb⟩; refine ⟨_, rfl, ?_⟩; have n0_ := Ad_.mk (Kd.R_lower ho0 (bZ_ (by repeat (with_reducible first | exact HB.out | apply bA_ | apply bN_ | apply b1_)))); have n1_ := Ad_.mk (bP_ (by repeat (with_reducible first | exact HB.out | apply bA_ | apply bN_ | apply b1_)) hb); clear HB; have HO834 := n0_; have HB := n1_; clear n0_ n1_; (try clear hb); (try clear hb2); (try clear hk); (try clear hi); (try clear ho0)))
  go_loopg [4, 12] k (fun kq v4 v12 w' => ∃ (x4_1 : List (S59)) (x12_1 : Int), v12 = .int .i64 x12_1 ∧ Ad_ (impl_binders.l0 kq l0 t832 x4_1 l0 (l0.length : Int) x12_1 = some r) ∧ Ad_ (kq ≤ k) ∧ Ad_ (Kd.R (Kd.int .i64) 3 w' w.heap.size (fun _ => True) v833 t832) ∧ Ad_ (Kd.R k59 59 w' w.heap.size (fun _ => True) v4 x4_1) ∧ Ad_ (Below w.heap.size w w'))
  case atStart => exact ⟨(([] : List (S59))), (0), fs_, H', ⟨Nat.le_refl _⟩, ⟨by (with_reducible repeat (first | apply Kd.R_alloc | apply Kd.R_drewN | apply Kd.R_drew)); exact HO834.out⟩, ⟨by first | exact Kd.R_nil _ _ _ _ _ | exact Kd.N_nil _ _ _ _ _ | exact Kd.V_nil _ _ _ _ _ | exact Kd.Q_nil _ _ _ _ _ | exact Kd.S_nil _ _ _ _ _⟩, ⟨by repeat (with_reducible first | exact HB.out | apply bA_ | apply bN_ | apply b1_)⟩⟩
  case round =>
    clear H'
    try clear p2
    obtain ⟨x4_1, x12_1, rfl, HA, HK1, HO_3, HO_4, HB⟩ := hrel
    cases gk with
    | zero => exact absurd HA.out (by simp [impl_binders.l0])
    | succ k1 =>
      have H := HA.out
      clear HA
      simp only [impl_binders.l0] at H
      by_cases c4 : x12_1 < (l0.length : Int)
      rotate_left
      ·
       rw [if_neg c4] at H
       have c4b0 := decide_eq_false c4
       clear c4
       obtain rfl := Option.some.inj H
       go_wp2
       go_ret
       exact ⟨_, by first | rfl | (simp [errW_none, errW_some] <;> rfl) | (simp [*, errW_none, errW_some] <;> rfl), by (with_reducible repeat (first | apply Kd.R_alloc | apply Kd.R_drewN | apply Kd.R_drew)); exact HO_4.out, by repeat (with_reducible first | exact HB.out | apply bA_ | apply bN_ | apply b1_)⟩
      rw [if_pos c4] at H
      have c4b0 := decide_eq_true c4
      clear c4
      by_cases c5 : 0 ≤ x12_1
      rotate_left
      ·
       rw [if_neg c5] at H
       exact absurd H (by simp)
      rw [if_pos c5] at H
      have c5b0 := decide_eq_true c5
      clear c5
      by_cases c6 : x12_1 < (l0.length : Int)
      rotate_left
      ·
       rw [if_neg c6] at H
       exact absurd H (by simp)
      rw [if_pos c6] at H
      have c6b0 := decide_eq_true c6
      clear c6
      by_cases c7 : ((rd_T55 l0 x12_1).f0) = 1
      rotate_left
      ·
       rw [if_neg c7] at H
       have c7b0 : (((rd_T55 l0 x12_1).f0) == 1) = false := beq_eq_false_iff_ne.mpr c7
       have c7b1 : (((rd_T55 l0 x12_1).f0) != 1) = true := bne_iff_ne.mpr c7
       by_cases c20 : x4_1.length < 8796093022208
       rotate_left
       ·
        rw [if_neg c20] at H
        exact absurd H (by simp)
       rw [if_pos c20] at H
       have LMc20 := Ad_.mk c20
       clear c20
       obtain ⟨y843, hy843⟩ : ∃ y_ : List (S59), y_ = (x4_1 ++ [(⟨(-1), (-1)⟩ : S59)]) := ⟨_, rfl⟩
       replace H : (impl_binders.l0 k1 l0 t832 y843 l0 (l0.length : Int) (wrap64 (x12_1 + 1))) = some r := by first | (rw [hy843]; with_reducible exact H) | (have H2_ := (Option.bind_some _ _).symm.trans H; rw [hy843]; with_reducible exact H2_) | (have H2_ := (Option.bind_some _ _).symm.trans H; with_reducible exact H2_) | with_reducible exact H | (rw [hy843]; exact H) | exact H
       have Ny843 := Ad_.mk hy843
       clear hy843
       have H' := Ad_.mk H
       clear H
       have p835 : 0 ≤ (x12_1 : Int) := od_
       have q835 : x12_1 < (l0.length : Int) := od_
       obtain ⟨ad835, e835, hx835_0, hx835_1, hx835_2, hx835_3, hx835_4, hx835_5, hx835_6⟩ := at_T55 HR0.out x12_1 p835 q835
       cases e835
       replace hx835_0 := pB_ HB.out hx835_0
       replace hx835_1 := pB_ HB.out hx835_1
       replace hx835_2 := pB_ HB.out hx835_2
       replace hx835_3 := pB_ HB.out hx835_3
       replace hx835_4 := pB_ HB.out hx835_4
       replace hx835_5 := pB_ HB.out hx835_5
       replace hx835_6 := pB_ HB.out hx835_6
       replace p835 := eq_true p835
       replace q835 := eq_true q835
       go_wp2_with (first | ((with_reducible refine gD_ (N := 6) rfl ?_); refine bE_ ?hg (N := 6) ?hd (cs := #[.int .i64 0, .int .i64 0, .int .i64 0, .int .i64 0, .int .i64 0, .string (⟨#[]⟩ : ByteArray), .string (⟨#[]⟩ : ByteArray)]) (t := 55) ?hr ?_; (case hd => rfl); (case hg => rfl); (case hr => first | (go_simp; done) | (go_simp; rfl)); intro gb836 hg w21 hbox hb; have n0_ := Ad_.mk (Kd.R_below (by (with_reducible repeat (first | apply Kd.R_alloc | apply Kd.R_drewN | apply Kd.R_drew)); exact HO_3.out) hb); have n1_ := Ad_.mk (Kd.R_below (by (with_reducible repeat (first | apply Kd.R_alloc | apply Kd.R_drewN | apply Kd.R_drew)); exact HO_4.out) hb); have n2_ := Ad_.mk (bP_ (by repeat (with_reducible first | exact HB.out | apply bA_ | apply bN_ | apply b1_)) hb); have n3_ := Ad_.mk (hbox); have n4_ := Ad_.mk ((by rw [hg]; exact (bZ_ (by repeat (with_reducible first | exact HB.out | apply bA_ | apply bN_ | apply b1_))) : w.heap.size ≤ gb836)); have n5_ := Ad_.mk ((by rw [hg]; exact (bZ_ (by repeat (with_reducible first | exact HB.out | apply bA_ | apply bN_ | apply b1_))) : w.heap.size ≤ gb836)); clear HO_3; clear HO_4; clear HB; have HO_3 := n0_; have HO_4 := n1_; have HB := n2_; have BK836 := n3_; have GW836 := n4_; have GE836 := n5_; clear n0_ n1_ n2_ n3_ n4_ n5_; clear hb hbox hg; obtain ⟨hcz22_0, hcz22_1, hcz22_2, hcz22_3, hcz22_4, hcz22_5, hcz22_6⟩ := cells7_ BK836.out; obtain ⟨hfz22_0, hfz22_1, hfz22_2, hfz22_3, hfz22_4, hfz22_5, hfz22_6⟩ := froz7_ BK836.out) | ((with_reducible refine gD_ (N := 7) rfl ?_); refine bE_ ?hg (N := 7) ?hd (cs := #[.int .i64 0, .int .i64 0]) (t := 59) ?hr ?_; (case hd => rfl); (case hg => rfl); (case hr => first | (go_simp; done) | (go_simp; rfl)); intro gb837 hg w23 hbox hb; have n0_ := Ad_.mk (Kd.R_below (by (with_reducible repeat (first | apply Kd.R_alloc | apply Kd.R_drewN | apply Kd.R_drew)); exact (Kd.R_mono (Kd.R_far (p := ⟨gb836, 6, none⟩) (Kd.R_far (p := ⟨gb836, 5, none⟩) (Kd.R_far (p := ⟨gb836, 4, none⟩) (Kd.R_far (p := ⟨gb836, 3, none⟩) (Kd.R_far (p := ⟨gb836, 2, none⟩) (Kd.R_far (p := ⟨gb836, 1, none⟩) (Kd.R_far (p := ⟨gb836, 0, none⟩) (Kd.R_types HO_3.out BK836.out (by decide)) (fun _ hk => hk.2) (.int .i64 ((rd_T55 l0 x12_1).f0))) (fun _ hk => hk.2) (.int .i64 ((rd_T55 l0 x12_1).f1))) (fun _ hk => hk.2) (.int .i64 ((rd_T55 l0 x12_1).f2))) (fun _ hk => hk.2) (.int .i64 ((rd_T55 l0 x12_1).f3))) (fun _ hk => hk.2) (.int .i64 ((rd_T55 l0 x12_1).f4))) (fun _ hk => hk.2) (.string ((rd_T55 l0 x12_1).f5))) (fun _ hk => hk.2) (.string ((rd_T55 l0 x12_1).f6))) (fun _ h_ => h_.1))) hb); have n1_ := Ad_.mk (Kd.R_below (Kd.R_elderB (by (with_reducible repeat (first | apply Kd.R_alloc | apply Kd.R_drewN | apply Kd.R_drew)); exact (Kd.R_mono (Kd.R_far (p := ⟨gb836, 6, none⟩) (Kd.R_far (p := ⟨gb836, 5, none⟩) (Kd.R_far (p := ⟨gb836, 4, none⟩) (Kd.R_far (p := ⟨gb836, 3, none⟩) (Kd.R_far (p := ⟨gb836, 2, none⟩) (Kd.R_far (p := ⟨gb836, 1, none⟩) (Kd.R_far (p := ⟨gb836, 0, none⟩) (Kd.R_types HO_4.out BK836.out (by decide)) (fun _ hk => hk.2) (.int .i64 ((rd_T55 l0 x12_1).f0))) (fun _ hk => hk.2) (.int .i64 ((rd_T55 l0 x12_1).f1))) (fun _ hk => hk.2) (.int .i64 ((rd_T55 l0 x12_1).f2))) (fun _ hk => hk.2) (.int .i64 ((rd_T55 l0 x12_1).f3))) (fun _ hk => hk.2) (.int .i64 ((rd_T55 l0 x12_1).f4))) (fun _ hk => hk.2) (.string ((rd_T55 l0 x12_1).f5))) (fun _ hk => hk.2) (.string ((rd_T55 l0 x12_1).f6))) (fun _ h_ => h_.1))) gb837 (Nat.le_of_eq hg.symm)) hb); have n2_ := Ad_.mk (blk_below (g := gb836) (o := .cells #[.int .i64 ((rd_T55 l0 x12_1).f0), .int .i64 ((rd_T55 l0 x12_1).f1), .int .i64 ((rd_T55 l0 x12_1).f2), .int .i64 ((rd_T55 l0 x12_1).f3), .int .i64 ((rd_T55 l0 x12_1).f4), .string ((rd_T55 l0 x12_1).f5), .string ((rd_T55 l0 x12_1).f6)] 55 (0, 0)) (by (with_reducible repeat (first | refine kN_ ?_ _ | refine k1_ ?_ | refine kA_ ?_ _)); refine blk_put (cs := #[.int .i64 ((rd_T55 l0 x12_1).f0), .int .i64 ((rd_T55 l0 x12_1).f1), .int .i64 ((rd_T55 l0 x12_1).f2), .int .i64 ((rd_T55 l0 x12_1).f3), .int .i64 ((rd_T55 l0 x12_1).f4), .string ((rd_T55 l0 x12_1).f5), .string (⟨#[]⟩ : ByteArray)]) ?_ 6 _ rfl; (with_reducible repeat (first | refine kN_ ?_ _ | refine k1_ ?_ | refine kA_ ?_ _)); refine blk_put (cs := #[.int .i64 ((rd_T55 l0 x12_1).f0), .int .i64 ((rd_T55 l0 x12_1).f1), .int .i64 ((rd_T55 l0 x12_1).f2), .int .i64 ((rd_T55 l0 x12_1).f3), .int .i64 ((rd_T55 l0 x12_1).f4), .string (⟨#[]⟩ : ByteArray), .string (⟨#[]⟩ : ByteArray)]) ?_ 5 _ rfl; (with_reducible repeat (first | refine kN_ ?_ _ | refine k1_ ?_ | refine kA_ ?_ _)); refine blk_put (cs := #[.int .i64 ((rd_T55 l0 x12_1).f0), .int .i64 ((rd_T55 l0 x12_1).f1), .int .i64 ((rd_T55 l0 x12_1).f2), .int .i64 ((rd_T55 l0 x12_1).f3), .int .i64 0, .string (⟨#[]⟩ : ByteArray), .string (⟨#[]⟩ : ByteArray)]) ?_ 4 _ rfl; (with_reducible repeat (first | refine kN_ ?_ _ | refine k1_ ?_ | refine kA_ ?_ _)); refine blk_put (cs := #[.int .i64 ((rd_T55 l0 x12_1).f0), .int .i64 ((rd_T55 l0 x12_1).f1), .int .i64 ((rd_T55 l0 x12_1).f2), .int .i64 0, .int .i64 0, .string (⟨#[]⟩ : ByteArray), .string (⟨#[]⟩ : ByteArray)]) ?_ 3 _ rfl; (with_reducible repeat (first | refine kN_ ?_ _ | refine k1_ ?_ | refine kA_ ?_ _)); refine blk_put (cs := #[.int .i64 ((rd_T55 l0 x12_1).f0), .int .i64 ((rd_T55 l0 x12_1).f1), .int .i64 0, .int .i64 0, .int .i64 0, .string (⟨#[]⟩ : ByteArray), .string (⟨#[]⟩ : ByteArray)]) ?_ 2 _ rfl; (with_reducible repeat (first | refine kN_ ?_ _ | refine k1_ ?_ | refine kA_ ?_ _)); refine blk_put (cs := #[.int .i64 ((rd_T55 l0 x12_1).f0), .int .i64 0, .int .i64 0, .int .i64 0, .int .i64 0, .string (⟨#[]⟩ : ByteArray), .string (⟨#[]⟩ : ByteArray)]) ?_ 1 _ rfl; (with_reducible repeat (first | refine kN_ ?_ _ | refine k1_ ?_ | refine kA_ ?_ _)); refine blk_put (cs := #[.int .i64 0, .int .i64 0, .int .i64 0, .int .i64 0, .int .i64 0, .string (⟨#[]⟩ : ByteArray), .string (⟨#[]⟩ : ByteArray)]) ?_ 0 _ rfl; (with_reducible repeat (first | refine kN_ ?_ _ | refine k1_ ?_ | refine kA_ ?_ _)); exact BK836.out) hb); have n3_ := Ad_.mk (bP_ (by repeat (with_reducible first | exact HB.out | apply bA_ | apply bN_ | apply b1_ | refine bS_ ?_ GE836.out)) hb); have n4_ := Ad_.mk (hbox); have n5_ := Ad_.mk ((by rw [hg]; exact (bZ_ (by repeat (with_reducible first | exact HB.out | apply bA_ | apply bN_ | apply b1_ | refine bS_ ?_ GE836.out))) : w.heap.size ≤ gb837)); have n6_ := Ad_.mk ((by rw [hg]; exact (bZ_ (by repeat (with_reducible first | exact HB.out | apply bA_ | apply bN_ | apply b1_ | refine bS_ ?_ GE836.out))) : w.heap.size ≤ gb837)); have n7_ := Ad_.mk ((by rw [hg]; exact Nat.ne_of_lt (blk_lt (g := gb836) (o := .cells #[.int .i64 ((rd_T55 l0 x12_1).f0), .int .i64 ((rd_T55 l0 x12_1).f1), .int .i64 ((rd_T55 l0 x12_1).f2), .int .i64 ((rd_T55 l0 x12_1).f3), .int .i64 ((rd_T55 l0 x12_1).f4), .string ((rd_T55 l0 x12_1).f5), .string ((rd_T55 l0 x12_1).f6)] 55 (0, 0)) (by (with_reducible repeat (first | refine kN_ ?_ _ | refine k1_ ?_ | refine kA_ ?_ _)); refine blk_put (cs := #[.int .i64 ((rd_T55 l0 x12_1).f0), .int .i64 ((rd_T55 l0 x12_1).f1), .int .i64 ((rd_T55 l0 x12_1).f2), .int .i64 ((rd_T55 l0 x12_1).f3), .int .i64 ((rd_T55 l0 x12_1).f4), .string ((rd_T55 l0 x12_1).f5), .string (⟨#[]⟩ : ByteArray)]) ?_ 6 _ rfl; (with_reducible repeat (first | refine kN_ ?_ _ | refine k1_ ?_ | refine kA_ ?_ _)); refine blk_put (cs := #[.int .i64 ((rd_T55 l0 x12_1).f0), .int .i64 ((rd_T55 l0 x12_1).f1), .int .i64 ((rd_T55 l0 x12_1).f2), .int .i64 ((rd_T55 l0 x12_1).f3), .int .i64 ((rd_T55 l0 x12_1).f4), .string (⟨#[]⟩ : ByteArray), .string (⟨#[]⟩ : ByteArray)]) ?_ 5 _ rfl; (with_reducible repeat (first | refine kN_ ?_ _ | refine k1_ ?_ | refine kA_ ?_ _)); refine blk_put (cs := #[.int .i64 ((rd_T55 l0 x12_1).f0), .int .i64 ((rd_T55 l0 x12_1).f1), .int .i64 ((rd_T55 l0 x12_1).f2), .int .i64 ((rd_T55 l0 x12_1).f3), .int .i64 0, .string (⟨#[]⟩ : ByteArray), .string (⟨#[]⟩ : ByteArray)]) ?_ 4 _ rfl; (with_reducible repeat (first | refine kN_ ?_ _ | refine k1_ ?_ | refine kA_ ?_ _)); refine blk_put (cs := #[.int .i64 ((rd_T55 l0 x12_1).f0), .int .i64 ((rd_T55 l0 x12_1).f1), .int .i64 ((rd_T55 l0 x12_1).f2), .int .i64 0, .int .i64 0, .string (⟨#[]⟩ : ByteArray), .string (⟨#[]⟩ : ByteArray)]) ?_ 3 _ rfl; (with_reducible repeat (first | refine kN_ ?_ _ | refine k1_ ?_ | refine kA_ ?_ _)); refine blk_put (cs := #[.int .i64 ((rd_T55 l0 x12_1).f0), .int .i64 ((rd_T55 l0 x12_1).f1), .int .i64 0, .int .i64 0, .int .i64 0, .string (⟨#[]⟩ : ByteArray), .string (⟨#[]⟩ : ByteArray)]) ?_ 2 _ rfl; (with_reducible repeat (first | refine kN_ ?_ _ | refine k1_ ?_ | refine kA_ ?_ _)); refine blk_put (cs := #[.int .i64 ((rd_T55 l0 x12_1).f0), .int .i64 0, .int .i64 0, .int .i64 0, .int .i64 0, .string (⟨#[]⟩ : ByteArray), .string (⟨#[]⟩ : ByteArray)]) ?_ 1 _ rfl; (with_reducible repeat (first | refine kN_ ?_ _ | refine k1_ ?_ | refine kA_ ?_ _)); refine blk_put (cs := #[.int .i64 0, .int .i64 0, .int .i64 0, .int .i64 0, .int .i64 0, .string (⟨#[]⟩ : ByteArray), .string (⟨#[]⟩ : ByteArray)]) ?_ 0 _ rfl; (with_reducible repeat (first | refine kN_ ?_ _ | refine k1_ ?_ | refine kA_ ?_ _)); exact BK836.out)) : gb836 ≠ gb837)); have n8_ := Ad_.mk ((by rw [hg]; exact Nat.ne_of_gt (blk_lt (g := gb836) (o := .cells #[.int .i64 ((rd_T55 l0 x12_1).f0), .int .i64 ((rd_T55 l0 x12_1).f1), .int .i64 ((rd_T55 l0 x12_1).f2), .int .i64 ((rd_T55 l0 x12_1).f3), .int .i64 ((rd_T55 l0 x12_1).f4), .string ((rd_T55 l0 x12_1).f5), .string ((rd_T55 l0 x12_1).f6)] 55 (0, 0)) (by (with_reducible repeat (first | refine kN_ ?_ _ | refine k1_ ?_ | refine kA_ ?_ _)); refine blk_put (cs := #[.int .i64 ((rd_T55 l0 x12_1).f0), .int .i64 ((rd_T55 l0 x12_1).f1), .int .i64 ((rd_T55 l0 x12_1).f2), .int .i64 ((rd_T55 l0 x12_1).f3), .int .i64 ((rd_T55 l0 x12_1).f4), .string ((rd_T55 l0 x12_1).f5), .string (⟨#[]⟩ : ByteArray)]) ?_ 6 _ rfl; (with_reducible repeat (first | refine kN_ ?_ _ | refine k1_ ?_ | refine kA_ ?_ _)); refine blk_put (cs := #[.int .i64 ((rd_T55 l0 x12_1).f0), .int .i64 ((rd_T55 l0 x12_1).f1), .int .i64 ((rd_T55 l0 x12_1).f2), .int .i64 ((rd_T55 l0 x12_1).f3), .int .i64 ((rd_T55 l0 x12_1).f4), .string (⟨#[]⟩ : ByteArray), .string (⟨#[]⟩ : ByteArray)]) ?_ 5 _ rfl; (with_reducible repeat (first | refine kN_ ?_ _ | refine k1_ ?_ | refine kA_ ?_ _)); refine blk_put (cs := #[.int .i64 ((rd_T55 l0 x12_1).f0), .int .i64 ((rd_T55 l0 x12_1).f1), .int .i64 ((rd_T55 l0 x12_1).f2), .int .i64 ((rd_T55 l0 x12_1).f3), .int .i64 0, .string (⟨#[]⟩ : ByteArray), .string (⟨#[]⟩ : ByteArray)]) ?_ 4 _ rfl; (with_reducible repeat (first | refine kN_ ?_ _ | refine k1_ ?_ | refine kA_ ?_ _)); refine blk_put (cs := #[.int .i64 ((rd_T55 l0 x12_1).f0), .int .i64 ((rd_T55 l0 x12_1).f1), .int .i64 ((rd_T55 l0 x12_1).f2), .int .i64 0, .int .i64 0, .string (⟨#[]⟩ : ByteArray), .string (⟨#[]⟩ : ByteArray)]) ?_ 3 _ rfl; (with_reducible repeat (first | refine kN_ ?_ _ | refine k1_ ?_ | refine kA_ ?_ _)); refine blk_put (cs := #[.int .i64 ((rd_T55 l0 x12_1).f0), .int .i64 ((rd_T55 l0 x12_1).f1), .int .i64 0, .int .i64 0, .int .i64 0, .string (⟨#[]⟩ : ByteArray), .string (⟨#[]⟩ : ByteArray)]) ?_ 2 _ rfl; (with_reducible repeat (first | refine kN_ ?_ _ | refine k1_ ?_ | refine kA_ ?_ _)); refine blk_put (cs := #[.int .i64 ((rd_T55 l0 x12_1).f0), .int .i64 0, .int .i64 0, .int .i64 0, .int .i64 0, .string (⟨#[]⟩ : ByteArray), .string (⟨#[]⟩ : ByteArray)]) ?_ 1 _ rfl; (with_reducible repeat (first | refine kN_ ?_ _ | refine k1_ ?_ | refine kA_ ?_ _)); refine blk_put (cs := #[.int .i64 0, .int .i64 0, .int .i64 0, .int .i64 0, .int .i64 0, .string (⟨#[]⟩ : ByteArray), .string (⟨#[]⟩ : ByteArray)]) ?_ 0 _ rfl; (with_reducible repeat (first | refine kN_ ?_ _ | refine k1_ ?_ | refine kA_ ?_ _)); exact BK836.out)) : gb837 ≠ gb836)); clear HO_3; clear HO_4; clear BK836; clear HB; have HO_3 := n0_; have HO_4 := n1_; have BK836 := n2_; have HB := n3_; have BK837 := n4_; have GW837 := n5_; have GE837 := n6_; have NB836_837 := n7_; have NB837_836 := n8_; clear n0_ n1_ n2_ n3_ n4_ n5_ n6_ n7_ n8_; clear hb hbox hg; have hnb24 := NB837_836.out; have hnc24 := NB836_837.out; obtain ⟨hcz25_0, hcz25_1⟩ := cells2_ BK837.out; obtain ⟨hfz25_0, hfz25_1⟩ := froz2_ BK837.out; obtain ⟨hcz26_0, hcz26_1, hcz26_2, hcz26_3, hcz26_4, hcz26_5, hcz26_6⟩ := cells7_ BK836.out; obtain ⟨hfz26_0, hfz26_1, hfz26_2, hfz26_3, hfz26_4, hfz26_5, hfz26_6⟩ := froz7_ BK836.out) | ((with_reducible refine gB_ (b := .append) (xs := #[.tmp 27, .tmp 29]) rfl ?_); at_builtin; refine Kd.R_append k59 (w0 := w) w.heap.size rfl (.tmp 27) (.tmp 29) 41 59 (.agg #[(.int .i64 0), (.int .i64 0)]) 16 rfl Tryd.underlying41 info59 rfl (by decide) (by omega) u4 x4_1 (⟨(-1), (-1)⟩ : S59) [.int .i64 (-1), .int .i64 (-1)] (fun k_ => k_ ≠ gb837) (fun _ => False) rfl (by first | (go_simp; done) | (go_simp; rfl)) ?aP (fun _ hk => hk.elim) ?aF ?aO ?aB ?aS ?aL ?_; (case aP => exact k59_mkM _ _ _ (⟨(-1), (-1)⟩ : S59)); (case aB => exact (by repeat (with_reducible first | exact HB.out | apply bA_ | apply bN_ | apply b1_ | refine bS_ ?_ GE836.out | refine bS_ ?_ GE837.out))); (case aF => exact (fun k_ hk => Kd.freshB (g := gb837) (o := .cells #[.int .i64 (-1), .int .i64 (-1)] 59 (0, 0)) (by (with_reducible repeat (first | refine kN_ ?_ _ | refine k1_ ?_ | refine kA_ ?_ _)); refine blk_put (cs := #[.int .i64 (-1), .int .i64 0]) ?_ 1 _ rfl; (with_reducible repeat (first | refine kN_ ?_ _ | refine k1_ ?_ | refine kA_ ?_ _)); refine blk_put (cs := #[.int .i64 0, .int .i64 0]) ?_ 0 _ rfl; (with_reducible repeat (first | refine kN_ ?_ _ | refine k1_ ?_ | refine kA_ ?_ _)); exact BK837.out) k_ hk)); (case aO => exact (by (with_reducible repeat (first | apply Kd.R_alloc | apply Kd.R_drewN | apply Kd.R_drew)); exact Kd.R_mono (Kd.R_far (p := ⟨gb837, 1, none⟩) (Kd.R_far (p := ⟨gb837, 0, none⟩) (Kd.R_mono HO_4.out (fun k_ hk => (⟨hk, hk.2⟩ : _ ∧ k_ ≠ gb837))) (fun _ hk => hk.2) (.int .i64 (-1))) (fun _ hk => hk.2) (.int .i64 (-1))) (fun _ hk => hk.1.2))); (case aS => exact (bZ_ (by repeat (with_reducible first | exact HB.out | apply bA_ | apply bN_ | apply b1_ | refine bS_ ?_ GE836.out | refine bS_ ?_ GE837.out)))); (case aL => have := LMc20.out; omega); intro v844 w27 ho hb hg hat; rw [← Ny843.out] at ho; have n0_ := Ad_.mk (Kd.R_over' (by (with_reducible repeat (first | apply Kd.R_alloc | apply Kd.R_drewN | apply Kd.R_drew)); exact (Kd.R_mono (Kd.R_far (p := ⟨gb837, 1, none⟩) (Kd.R_far (p := ⟨gb837, 0, none⟩) (Kd.R_types HO_3.out BK837.out (by decide)) (fun _ hk => hk.2) (.int .i64 (-1))) (fun _ hk => hk.2) (.int .i64 (-1))) (fun _ h_ => h_.1))) (Kd.R_typed (by (with_reducible repeat (first | apply Kd.R_alloc | apply Kd.R_drewN | apply Kd.R_drew)); exact (Kd.R_mono (Kd.R_far (p := ⟨gb837, 1, none⟩) (Kd.R_far (p := ⟨gb837, 0, none⟩) (Kd.R_mono HO_4.out (fun k_ hk => (⟨hk, hk.2⟩ : _ ∧ k_ ≠ gb837))) (fun _ hk => hk.2) (.int .i64 (-1))) (fun _ hk => hk.2) (.int .i64 (-1))) (fun _ h_ => h_.1)))) (by decide) hg); have n1_ := Ad_.mk (blk_grown (g := gb836) (o := .cells #[.int .i64 ((rd_T55 l0 x12_1).f0), .int .i64 ((rd_T55 l0 x12_1).f1), .int .i64 ((rd_T55 l0 x12_1).f2), .int .i64 ((rd_T55 l0 x12_1).f3), .int .i64 ((rd_T55 l0 x12_1).f4), .string ((rd_T55 l0 x12_1).f5), .string ((rd_T55 l0 x12_1).f6)] 55 (0, 0)) (by (with_reducible repeat (first | refine kN_ ?_ _ | refine k1_ ?_ | refine kA_ ?_ _)); refine blk_far ?_ NB836_837.out _; (with_reducible repeat (first | refine kN_ ?_ _ | refine k1_ ?_ | refine kA_ ?_ _)); refine blk_far ?_ NB836_837.out _; (with_reducible repeat (first | refine kN_ ?_ _ | refine k1_ ?_ | refine kA_ ?_ _)); exact BK836.out) hg (Kd.R_ne HO_4.out BK836.out (by decide))); have n2_ := Ad_.mk (blk_grown (g := gb837) (o := .cells #[.int .i64 (-1), .int .i64 (-1)] 59 (0, 0)) (by (with_reducible repeat (first | refine kN_ ?_ _ | refine k1_ ?_ | refine kA_ ?_ _)); refine blk_put (cs := #[.int .i64 (-1), .int .i64 0]) ?_ 1 _ rfl; (with_reducible repeat (first | refine kN_ ?_ _ | refine k1_ ?_ | refine kA_ ?_ _)); refine blk_put (cs := #[.int .i64 0, .int .i64 0]) ?_ 0 _ rfl; (with_reducible repeat (first | refine kN_ ?_ _ | refine k1_ ?_ | refine kA_ ?_ _)); exact BK837.out) hg (Kd.R_away HO_4.out (fun _ hk => hk.2))); have n3_ := Ad_.mk (hb); have n4_ := Ad_.mk (ho); clear HO_3; clear BK836; clear BK837; clear HB; clear HO_4; have HO_3 := n0_; have BK836 := n1_; have BK837 := n2_; have HB := n3_; have HO845 := n4_; clear n0_ n1_ n2_ n3_ n4_; clear ho hb hg hat))
       go_roundg k1
       case measure => have := HK1.out; omega
       case rel => exact ⟨(y843), (wrap64 (x12_1 + 1)), fs_, H', ⟨by have := HK1.out; omega⟩, ⟨by (with_reducible repeat (first | apply Kd.R_alloc | apply Kd.R_drewN | apply Kd.R_drew)); exact HO_3.out⟩, ⟨by (with_reducible repeat (first | apply Kd.R_alloc | apply Kd.R_drewN | apply Kd.R_drew)); exact Kd.R_mono HO845.out (fun _ hk => trivial)⟩, ⟨by repeat (with_reducible first | exact HB.out | apply bA_ | apply bN_ | apply b1_ | refine bS_ ?_ GE836.out | refine bS_ ?_ GE837.out)⟩⟩
      rw [if_pos c7] at H
      have c7b0 : (((rd_T55 l0 x12_1).f0) == 1) = true := beq_iff_eq.mpr c7
      have c7b1 : (((rd_T55 l0 x12_1).f0) != 1) = false := bne_eq_false_iff_eq.mpr c7
      clear c7
      replace H := Option.bind_eq_some_iff.mp H
      obtain ⟨⟨t838, t839⟩, A80, H⟩ := H
      try dsimp only at H
      have A8 := Ad_.mk A80
      clear A80
      by_cases c9 : x4_1.length < 8796093022208
      rotate_left
      ·
       rw [if_neg c9] at H
       exact absurd H (by simp)
      rw [if_pos c9] at H
      have LMc9 := Ad_.mk c9
      clear c9
      obtain ⟨y840, hy840⟩ : ∃ y_ : List (S59), y_ = (x4_1 ++ [(⟨t838, t839⟩ : S59)]) := ⟨_, rfl⟩
      replace H : (impl_binders.l0 k1 l0 t832 y840 l0 (l0.length : Int) (wrap64 (x12_1 + 1))) = some r := by first | (rw [hy840]; with_reducible exact H) | (have H2_ := (Option.bind_some _ _).symm.trans H; rw [hy840]; with_reducible exact H2_) | (have H2_ := (Option.bind_some _ _).symm.trans H; with_reducible exact H2_) | with_reducible exact H | (rw [hy840]; exact H) | exact H
      have Ny840 := Ad_.mk hy840
      clear hy840
      have H' := Ad_.mk H
      clear H
      have p835 : 0 ≤ (x12_1 : Int) := od_
      have q835 : x12_1 < (l0.length : Int) := od_
      obtain ⟨ad835, e835, hx835_0, hx835_1, hx835_2, hx835_3, hx835_4, hx835_5, hx835_6⟩ := at_T55 HR0.out x12_1 p835 q835
      cases e835
      replace hx835_0 := pB_ HB.out hx835_0
      replace hx835_1 := pB_ HB.out hx835_1
      replace hx835_2 := pB_ HB.out hx835_2
      replace hx835_3 := pB_ HB.out hx835_3
      replace hx835_4 := pB_ HB.out hx835_4
      replace hx835_5 := pB_ HB.out hx835_5
      replace hx835_6 := pB_ HB.out hx835_6
      replace p835 := eq_true p835
      replace q835 := eq_true q835
      go_wp2_with (first | ((with_reducible refine gD_ (N := 6) rfl ?_); refine bE_ ?hg (N := 6) ?hd (cs := #[.int .i64 0, .int .i64 0, .int .i64 0, .int .i64 0, .int .i64 0, .string (⟨#[]⟩ : ByteArray), .string (⟨#[]⟩ : ByteArray)]) (t := 55) ?hr ?_; (case hd => rfl); (case hg => rfl); (case hr => first | (go_simp; done) | (go_simp; rfl)); intro gb836 hg w10 hbox hb; have n0_ := Ad_.mk (Kd.R_below (by (with_reducible repeat (first | apply Kd.R_alloc | apply Kd.R_drewN | apply Kd.R_drew)); exact HO_3.out) hb); have n1_ := Ad_.mk (Kd.R_below (by (with_reducible repeat (first | apply Kd.R_alloc | apply Kd.R_drewN | apply Kd.R_drew)); exact HO_4.out) hb); have n2_ := Ad_.mk (bP_ (by repeat (with_reducible first | exact HB.out | apply bA_ | apply bN_ | apply b1_)) hb); have n3_ := Ad_.mk (hbox); have n4_ := Ad_.mk ((by rw [hg]; exact (bZ_ (by repeat (with_reducible first | exact HB.out | apply bA_ | apply bN_ | apply b1_))) : w.heap.size ≤ gb836)); have n5_ := Ad_.mk ((by rw [hg]; exact (bZ_ (by repeat (with_reducible first | exact HB.out | apply bA_ | apply bN_ | apply b1_))) : w.heap.size ≤ gb836)); clear HO_3; clear HO_4; clear HB; have HO_3 := n0_; have HO_4 := n1_; have HB := n2_; have BK836 := n3_; have GW836 := n4_; have GE836 := n5_; clear n0_ n1_ n2_ n3_ n4_ n5_; clear hb hbox hg; obtain ⟨hcz11_0, hcz11_1, hcz11_2, hcz11_3, hcz11_4, hcz11_5, hcz11_6⟩ := cells7_ BK836.out; obtain ⟨hfz11_0, hfz11_1, hfz11_2, hfz11_3, hfz11_4, hfz11_5, hfz11_6⟩ := froz7_ BK836.out) | ((with_reducible refine gD_ (N := 7) rfl ?_); refine bE_ ?hg (N := 7) ?hd (cs := #[.int .i64 0, .int .i64 0]) (t := 59) ?hr ?_; (case hd => rfl); (case hg => rfl); (case hr => first | (go_simp; done) | (go_simp; rfl)); intro gb837 hg w12 hbox hb; have n0_ := Ad_.mk (Kd.R_below (by (with_reducible repeat (first | apply Kd.R_alloc | apply Kd.R_drewN | apply Kd.R_drew)); exact (Kd.R_mono (Kd.R_far (p := ⟨gb836, 6, none⟩) (Kd.R_far (p := ⟨gb836, 5, none⟩) (Kd.R_far (p := ⟨gb836, 4, none⟩) (Kd.R_far (p := ⟨gb836, 3, none⟩) (Kd.R_far (p := ⟨gb836, 2, none⟩) (Kd.R_far (p := ⟨gb836, 1, none⟩) (Kd.R_far (p := ⟨gb836, 0, none⟩) (Kd.R_types HO_3.out BK836.out (by decide)) (fun _ hk => hk.2) (.int .i64 ((rd_T55 l0 x12_1).f0))) (fun _ hk => hk.2) (.int .i64 ((rd_T55 l0 x12_1).f1))) (fun _ hk => hk.2) (.int .i64 ((rd_T55 l0 x12_1).f2))) (fun _ hk => hk.2) (.int .i64 ((rd_T55 l0 x12_1).f3))) (fun _ hk => hk.2) (.int .i64 ((rd_T55 l0 x12_1).f4))) (fun _ hk => hk.2) (.string ((rd_T55 l0 x12_1).f5))) (fun _ hk => hk.2) (.string ((rd_T55 l0 x12_1).f6))) (fun _ h_ => h_.1))) hb); have n1_ := Ad_.mk (Kd.R_below (Kd.R_elderB (by (with_reducible repeat (first | apply Kd.R_alloc | apply Kd.R_drewN | apply Kd.R_drew)); exact (Kd.R_mono (Kd.R_far (p := ⟨gb836, 6, none⟩) (Kd.R_far (p := ⟨gb836, 5, none⟩) (Kd.R_far (p := ⟨gb836, 4, none⟩) (Kd.R_far (p := ⟨gb836, 3, none⟩) (Kd.R_far (p := ⟨gb836, 2, none⟩) (Kd.R_far (p := ⟨gb836, 1, none⟩) (Kd.R_far (p := ⟨gb836, 0, none⟩) (Kd.R_types HO_4.out BK836.out (by decide)) (fun _ hk => hk.2) (.int .i64 ((rd_T55 l0 x12_1).f0))) (fun _ hk => hk.2) (.int .i64 ((rd_T55 l0 x12_1).f1))) (fun _ hk => hk.2) (.int .i64 ((rd_T55 l0 x12_1).f2))) (fun _ hk => hk.2) (.int .i64 ((rd_T55 l0 x12_1).f3))) (fun _ hk => hk.2) (.int .i64 ((rd_T55 l0 x12_1).f4))) (fun _ hk => hk.2) (.string ((rd_T55 l0 x12_1).f5))) (fun _ hk => hk.2) (.string ((rd_T55 l0 x12_1).f6))) (fun _ h_ => h_.1))) gb837 (Nat.le_of_eq hg.symm)) hb); have n2_ := Ad_.mk (blk_below (g := gb836) (o := .cells #[.int .i64 ((rd_T55 l0 x12_1).f0), .int .i64 ((rd_T55 l0 x12_1).f1), .int .i64 ((rd_T55 l0 x12_1).f2), .int .i64 ((rd_T55 l0 x12_1).f3), .int .i64 ((rd_T55 l0 x12_1).f4), .string ((rd_T55 l0 x12_1).f5), .string ((rd_T55 l0 x12_1).f6)] 55 (0, 0)) (by (with_reducible repeat (first | refine kN_ ?_ _ | refine k1_ ?_ | refine kA_ ?_ _)); refine blk_put (cs := #[.int .i64 ((rd_T55 l0 x12_1).f0), .int .i64 ((rd_T55 l0 x12_1).f1), .int .i64 ((rd_T55 l0 x12_1).f2), .int .i64 ((rd_T55 l0 x12_1).f3), .int .i64 ((rd_T55 l0 x12_1).f4), .string ((rd_T55 l0 x12_1).f5), .string (⟨#[]⟩ : ByteArray)]) ?_ 6 _ rfl; (with_reducible repeat (first | refine kN_ ?_ _ | refine k1_ ?_ | refine kA_ ?_ _)); refine blk_put (cs := #[.int .i64 ((rd_T55 l0 x12_1).f0), .int .i64 ((rd_T55 l0 x12_1).f1), .int .i64 ((rd_T55 l0 x12_1).f2), .int .i64 ((rd_T55 l0 x12_1).f3), .int .i64 ((rd_T55 l0 x12_1).f4), .string (⟨#[]⟩ : ByteArray), .string (⟨#[]⟩ : ByteArray)]) ?_ 5 _ rfl; (with_reducible repeat (first | refine kN_ ?_ _ | refine k1_ ?_ | refine kA_ ?_ _)); refine blk_put (cs := #[.int .i64 ((rd_T55 l0 x12_1).f0), .int .i64 ((rd_T55 l0 x12_1).f1), .int .i64 ((rd_T55 l0 x12_1).f2), .int .i64 ((rd_T55 l0 x12_1).f3), .int .i64 0, .string (⟨#[]⟩ : ByteArray), .string (⟨#[]⟩ : ByteArray)]) ?_ 4 _ rfl; (with_reducible repeat (first | refine kN_ ?_ _ | refine k1_ ?_ | refine kA_ ?_ _)); refine blk_put (cs := #[.int .i64 ((rd_T55 l0 x12_1).f0), .int .i64 ((rd_T55 l0 x12_1).f1), .int .i64 ((rd_T55 l0 x12_1).f2), .int .i64 0, .int .i64 0, .string (⟨#[]⟩ : ByteArray), .string (⟨#[]⟩ : ByteArray)]) ?_ 3 _ rfl; (with_reducible repeat (first | refine kN_ ?_ _ | refine k1_ ?_ | refine kA_ ?_ _)); refine blk_put (cs := #[.int .i64 ((rd_T55 l0 x12_1).f0), .int .i64 ((rd_T55 l0 x12_1).f1), .int .i64 0, .int .i64 0, .int .i64 0, .string (⟨#[]⟩ : ByteArray), .string (⟨#[]⟩ : ByteArray)]) ?_ 2 _ rfl; (with_reducible repeat (first | refine kN_ ?_ _ | refine k1_ ?_ | refine kA_ ?_ _)); refine blk_put (cs := #[.int .i64 ((rd_T55 l0 x12_1).f0), .int .i64 0, .int .i64 0, .int .i64 0, .int .i64 0, .string (⟨#[]⟩ : ByteArray), .string (⟨#[]⟩ : ByteArray)]) ?_ 1 _ rfl; (with_reducible repeat (first | refine kN_ ?_ _ | refine k1_ ?_ | refine kA_ ?_ _)); refine blk_put (cs := #[.int .i64 0, .int .i64 0, .int .i64 0, .int .i64 0, .int .i64 0, .string (⟨#[]⟩ : ByteArray), .string (⟨#[]⟩ : ByteArray)]) ?_ 0 _ rfl; (with_reducible repeat (first | refine kN_ ?_ _ | refine k1_ ?_ | refine kA_ ?_ _)); exact BK836.out) hb); have n3_ := Ad_.mk (bP_ (by repeat (with_reducible first | exact HB.out | apply bA_ | apply bN_ | apply b1_ | refine bS_ ?_ GE836.out)) hb); have n4_ := Ad_.mk (hbox); have n5_ := Ad_.mk ((by rw [hg]; exact (bZ_ (by repeat (with_reducible first | exact HB.out | apply bA_ | apply bN_ | apply b1_ | refine bS_ ?_ GE836.out))) : w.heap.size ≤ gb837)); have n6_ := Ad_.mk ((by rw [hg]; exact (bZ_ (by repeat (with_reducible first | exact HB.out | apply bA_ | apply bN_ | apply b1_ | refine bS_ ?_ GE836.out))) : w.heap.size ≤ gb837)); have n7_ := Ad_.mk ((by rw [hg]; exact Nat.ne_of_lt (blk_lt (g := gb836) (o := .cells #[.int .i64 ((rd_T55 l0 x12_1).f0), .int .i64 ((rd_T55 l0 x12_1).f1), .int .i64 ((rd_T55 l0 x12_1).f2), .int .i64 ((rd_T55 l0 x12_1).f3), .int .i64 ((rd_T55 l0 x12_1).f4), .string ((rd_T55 l0 x12_1).f5), .string ((rd_T55 l0 x12_1).f6)] 55 (0, 0)) (by (with_reducible repeat (first | refine kN_ ?_ _ | refine k1_ ?_ | refine kA_ ?_ _)); refine blk_put (cs := #[.int .i64 ((rd_T55 l0 x12_1).f0), .int .i64 ((rd_T55 l0 x12_1).f1), .int .i64 ((rd_T55 l0 x12_1).f2), .int .i64 ((rd_T55 l0 x12_1).f3), .int .i64 ((rd_T55 l0 x12_1).f4), .string ((rd_T55 l0 x12_1).f5), .string (⟨#[]⟩ : ByteArray)]) ?_ 6 _ rfl; (with_reducible repeat (first | refine kN_ ?_ _ | refine k1_ ?_ | refine kA_ ?_ _)); refine blk_put (cs := #[.int .i64 ((rd_T55 l0 x12_1).f0), .int .i64 ((rd_T55 l0 x12_1).f1), .int .i64 ((rd_T55 l0 x12_1).f2), .int .i64 ((rd_T55 l0 x12_1).f3), .int .i64 ((rd_T55 l0 x12_1).f4), .string (⟨#[]⟩ : ByteArray), .string (⟨#[]⟩ : ByteArray)]) ?_ 5 _ rfl; (with_reducible repeat (first | refine kN_ ?_ _ | refine k1_ ?_ | refine kA_ ?_ _)); refine blk_put (cs := #[.int .i64 ((rd_T55 l0 x12_1).f0), .int .i64 ((rd_T55 l0 x12_1).f1), .int .i64 ((rd_T55 l0 x12_1).f2), .int .i64 ((rd_T55 l0 x12_1).f3), .int .i64 0, .string (⟨#[]⟩ : ByteArray), .string (⟨#[]⟩ : ByteArray)]) ?_ 4 _ rfl; (with_reducible repeat (first | refine kN_ ?_ _ | refine k1_ ?_ | refine kA_ ?_ _)); refine blk_put (cs := #[.int .i64 ((rd_T55 l0 x12_1).f0), .int .i64 ((rd_T55 l0 x12_1).f1), .int .i64 ((rd_T55 l0 x12_1).f2), .int .i64 0, .int .i64 0, .string (⟨#[]⟩ : ByteArray), .string (⟨#[]⟩ : ByteArray)]) ?_ 3 _ rfl; (with_reducible repeat (first | refine kN_ ?_ _ | refine k1_ ?_ | refine kA_ ?_ _)); refine blk_put (cs := #[.int .i64 ((rd_T55 l0 x12_1).f0), .int .i64 ((rd_T55 l0 x12_1).f1), .int .i64 0, .int .i64 0, .int .i64 0, .string (⟨#[]⟩ : ByteArray), .string (⟨#[]⟩ : ByteArray)]) ?_ 2 _ rfl; (with_reducible repeat (first | refine kN_ ?_ _ | refine k1_ ?_ | refine kA_ ?_ _)); refine blk_put (cs := #[.int .i64 ((rd_T55 l0 x12_1).f0), .int .i64 0, .int .i64 0, .int .i64 0, .int .i64 0, .string (⟨#[]⟩ : ByteArray), .string (⟨#[]⟩ : ByteArray)]) ?_ 1 _ rfl; (with_reducible repeat (first | refine kN_ ?_ _ | refine k1_ ?_ | refine kA_ ?_ _)); refine blk_put (cs := #[.int .i64 0, .int .i64 0, .int .i64 0, .int .i64 0, .int .i64 0, .string (⟨#[]⟩ : ByteArray), .string (⟨#[]⟩ : ByteArray)]) ?_ 0 _ rfl; (with_reducible repeat (first | refine kN_ ?_ _ | refine k1_ ?_ | refine kA_ ?_ _)); exact BK836.out)) : gb836 ≠ gb837)); have n8_ := Ad_.mk ((by rw [hg]; exact Nat.ne_of_gt (blk_lt (g := gb836) (o := .cells #[.int .i64 ((rd_T55 l0 x12_1).f0), .int .i64 ((rd_T55 l0 x12_1).f1), .int .i64 ((rd_T55 l0 x12_1).f2), .int .i64 ((rd_T55 l0 x12_1).f3), .int .i64 ((rd_T55 l0 x12_1).f4), .string ((rd_T55 l0 x12_1).f5), .string ((rd_T55 l0 x12_1).f6)] 55 (0, 0)) (by (with_reducible repeat (first | refine kN_ ?_ _ | refine k1_ ?_ | refine kA_ ?_ _)); refine blk_put (cs := #[.int .i64 ((rd_T55 l0 x12_1).f0), .int .i64 ((rd_T55 l0 x12_1).f1), .int .i64 ((rd_T55 l0 x12_1).f2), .int .i64 ((rd_T55 l0 x12_1).f3), .int .i64 ((rd_T55 l0 x12_1).f4), .string ((rd_T55 l0 x12_1).f5), .string (⟨#[]⟩ : ByteArray)]) ?_ 6 _ rfl; (with_reducible repeat (first | refine kN_ ?_ _ | refine k1_ ?_ | refine kA_ ?_ _)); refine blk_put (cs := #[.int .i64 ((rd_T55 l0 x12_1).f0), .int .i64 ((rd_T55 l0 x12_1).f1), .int .i64 ((rd_T55 l0 x12_1).f2), .int .i64 ((rd_T55 l0 x12_1).f3), .int .i64 ((rd_T55 l0 x12_1).f4), .string (⟨#[]⟩ : ByteArray), .string (⟨#[]⟩ : ByteArray)]) ?_ 5 _ rfl; (with_reducible repeat (first | refine kN_ ?_ _ | refine k1_ ?_ | refine kA_ ?_ _)); refine blk_put (cs := #[.int .i64 ((rd_T55 l0 x12_1).f0), .int .i64 ((rd_T55 l0 x12_1).f1), .int .i64 ((rd_T55 l0 x12_1).f2), .int .i64 ((rd_T55 l0 x12_1).f3), .int .i64 0, .string (⟨#[]⟩ : ByteArray), .string (⟨#[]⟩ : ByteArray)]) ?_ 4 _ rfl; (with_reducible repeat (first | refine kN_ ?_ _ | refine k1_ ?_ | refine kA_ ?_ _)); refine blk_put (cs := #[.int .i64 ((rd_T55 l0 x12_1).f0), .int .i64 ((rd_T55 l0 x12_1).f1), .int .i64 ((rd_T55 l0 x12_1).f2), .int .i64 0, .int .i64 0, .string (⟨#[]⟩ : ByteArray), .string (⟨#[]⟩ : ByteArray)]) ?_ 3 _ rfl; (with_reducible repeat (first | refine kN_ ?_ _ | refine k1_ ?_ | refine kA_ ?_ _)); refine blk_put (cs := #[.int .i64 ((rd_T55 l0 x12_1).f0), .int .i64 ((rd_T55 l0 x12_1).f1), .int .i64 0, .int .i64 0, .int .i64 0, .string (⟨#[]⟩ : ByteArray), .string (⟨#[]⟩ : ByteArray)]) ?_ 2 _ rfl; (with_reducible repeat (first | refine kN_ ?_ _ | refine k1_ ?_ | refine kA_ ?_ _)); refine blk_put (cs := #[.int .i64 ((rd_T55 l0 x12_1).f0), .int .i64 0, .int .i64 0, .int .i64 0, .int .i64 0, .string (⟨#[]⟩ : ByteArray), .string (⟨#[]⟩ : ByteArray)]) ?_ 1 _ rfl; (with_reducible repeat (first | refine kN_ ?_ _ | refine k1_ ?_ | refine kA_ ?_ _)); refine blk_put (cs := #[.int .i64 0, .int .i64 0, .int .i64 0, .int .i64 0, .int .i64 0, .string (⟨#[]⟩ : ByteArray), .string (⟨#[]⟩ : ByteArray)]) ?_ 0 _ rfl; (with_reducible repeat (first | refine kN_ ?_ _ | refine k1_ ?_ | refine kA_ ?_ _)); exact BK836.out)) : gb837 ≠ gb836)); clear HO_3; clear HO_4; clear BK836; clear HB; have HO_3 := n0_; have HO_4 := n1_; have BK836 := n2_; have HB := n3_; have BK837 := n4_; have GW837 := n5_; have GE837 := n6_; have NB836_837 := n7_; have NB837_836 := n8_; clear n0_ n1_ n2_ n3_ n4_ n5_ n6_ n7_ n8_; clear hb hbox hg; have hnb13 := NB837_836.out; have hnc13 := NB836_837.out; obtain ⟨hcz14_0, hcz14_1⟩ := cells2_ BK837.out; obtain ⟨hfz14_0, hfz14_1⟩ := froz2_ BK837.out; obtain ⟨hcz15_0, hcz15_1, hcz15_2, hcz15_3, hcz15_4, hcz15_5, hcz15_6⟩ := cells7_ BK836.out; obtain ⟨hfz15_0, hfz15_1, hfz15_2, hfz15_3, hfz15_4, hfz15_5, hfz15_6⟩ := froz7_ BK836.out; obtain ⟨Ao16, co16, eo16⟩ := Kd.R_slice HO_3.out; subst eo16) | ((with_reducible refine gC_ (f := 111) rfl ?_); refine gM_ (some 26) rfl rfl Tryd.func111 (by kernel_rfl) rfl #[.slice (some ad835) l0.length c0, .slice Ao16 t832.length co16, .int .i64 x12_1, .string ((rd_T55 l0 x12_1).f5)] rfl ?_; (with_reducible refine (impl_binderOf.calls k1 _ _ l0 _ _ t832 x12_1 ((rd_T55 l0 x12_1).f5) t838 t839 _ ?side1 ?side2 ?side3 ?side4 A8.out).mono ?_); (case side1 => exact Kd.C_below HR0.out (by repeat (with_reducible first | exact HB.out | apply bA_ | apply bN_ | apply b1_ | refine bS_ ?_ GE836.out | refine bS_ ?_ GE837.out))); (case side2 => exact HC0.out); (case side3 => refine (Kd.R_reads' (e := 3) (base := w.heap.size) (ok := fun k_ => True) (n := t832.length) (c := co16) ?_).2.2; exact (by (with_reducible repeat (first | apply Kd.R_alloc | apply Kd.R_drewN | apply Kd.R_drew)); exact (Kd.R_mono (Kd.R_far (p := ⟨gb837, 1, none⟩) (Kd.R_far (p := ⟨gb837, 0, none⟩) (Kd.R_types HO_3.out BK837.out (by decide)) (fun _ hk => hk.2) (.int .i64 (-1))) (fun _ hk => hk.2) (.int .i64 (-1))) (fun _ h_ => h_.1)))); (case side4 => exact (Kd.R_reads' HO_3.out).2.1); rintro e w17 ⟨rfl, hb⟩; refine ⟨_, rfl, ?_⟩; have n0_ := Ad_.mk (Kd.R_below (by (with_reducible repeat (first | apply Kd.R_alloc | apply Kd.R_drewN | apply Kd.R_drew)); exact (Kd.R_mono (Kd.R_far (p := ⟨gb837, 1, none⟩) (Kd.R_far (p := ⟨gb837, 0, none⟩) (Kd.R_types HO_3.out BK837.out (by decide)) (fun _ hk => hk.2) (.int .i64 (-1))) (fun _ hk => hk.2) (.int .i64 (-1))) (fun _ h_ => h_.1))) hb); have n1_ := Ad_.mk (Kd.R_below (by (with_reducible repeat (first | apply Kd.R_alloc | apply Kd.R_drewN | apply Kd.R_drew)); exact (Kd.R_mono (Kd.R_far (p := ⟨gb837, 1, none⟩) (Kd.R_far (p := ⟨gb837, 0, none⟩) (Kd.R_mono HO_4.out (fun k_ hk => (⟨hk, hk.2⟩ : _ ∧ k_ ≠ gb837))) (fun _ hk => hk.2) (.int .i64 (-1))) (fun _ hk => hk.2) (.int .i64 (-1))) (fun _ h_ => h_.1))) hb); have n2_ := Ad_.mk (blk_below (g := gb836) (o := .cells #[.int .i64 ((rd_T55 l0 x12_1).f0), .int .i64 ((rd_T55 l0 x12_1).f1), .int .i64 ((rd_T55 l0 x12_1).f2), .int .i64 ((rd_T55 l0 x12_1).f3), .int .i64 ((rd_T55 l0 x12_1).f4), .string ((rd_T55 l0 x12_1).f5), .string ((rd_T55 l0 x12_1).f6)] 55 (0, 0)) (by (with_reducible repeat (first | refine kN_ ?_ _ | refine k1_ ?_ | refine kA_ ?_ _)); refine blk_far ?_ NB836_837.out _; (with_reducible repeat (first | refine kN_ ?_ _ | refine k1_ ?_ | refine kA_ ?_ _)); refine blk_far ?_ NB836_837.out _; (with_reducible repeat (first | refine kN_ ?_ _ | refine k1_ ?_ | refine kA_ ?_ _)); exact BK836.out) hb); have n3_ := Ad_.mk (blk_below (g := gb837) (o := .cells #[.int .i64 (-1), .int .i64 (-1)] 59 (0, 0)) (by (with_reducible repeat (first | refine kN_ ?_ _ | refine k1_ ?_ | refine kA_ ?_ _)); refine blk_put (cs := #[.int .i64 (-1), .int .i64 0]) ?_ 1 _ rfl; (with_reducible repeat (first | refine kN_ ?_ _ | refine k1_ ?_ | refine kA_ ?_ _)); refine blk_put (cs := #[.int .i64 0, .int .i64 0]) ?_ 0 _ rfl; (with_reducible repeat (first | refine kN_ ?_ _ | refine k1_ ?_ | refine kA_ ?_ _)); exact BK837.out) hb); have n4_ := Ad_.mk (bP_ (by repeat (with_reducible first | exact HB.out | apply bA_ | apply bN_ | apply b1_ | refine bS_ ?_ GE836.out | refine bS_ ?_ GE837.out)) hb); clear HO_3; clear HO_4; clear BK836; clear BK837; clear HB; have HO_3 := n0_; have HO_4 := n1_; have BK836 := n2_; have BK837 := n3_; have HB := n4_; clear n0_ n1_ n2_ n3_ n4_; (try clear hb); (try clear hb2); (try clear hk); (try clear hi); obtain ⟨hcz18_0, hcz18_1⟩ := cells2_ BK837.out; obtain ⟨hfz18_0, hfz18_1⟩ := froz2_ BK837.out) | ((with_reducible refine gB_ (b := .append) (xs := #[.tmp 27, .tmp 29]) rfl ?_); at_builtin; refine Kd.R_append k59 (w0 := w) w.heap.size rfl (.tmp 27) (.tmp 29) 41 59 (.agg #[(.int .i64 0), (.int .i64 0)]) 16 rfl Tryd.underlying41 info59 rfl (by decide) (by omega) u4 x4_1 (⟨t838, t839⟩ : S59) [.int .i64 t838, .int .i64 t839] (fun k_ => k_ ≠ gb837) (fun _ => False) rfl (by first | (go_simp; done) | (go_simp; rfl)) ?aP (fun _ hk => hk.elim) ?aF ?aO ?aB ?aS ?aL ?_; (case aP => exact k59_mkM _ _ _ (⟨t838, t839⟩ : S59)); (case aB => exact (by repeat (with_reducible first | exact HB.out | apply bA_ | apply bN_ | apply b1_ | refine bS_ ?_ GE836.out | refine bS_ ?_ GE837.out))); (case aF => exact (fun k_ hk => Kd.freshB (g := gb837) (o := .cells #[.int .i64 t838, .int .i64 t839] 59 (0, 0)) (by (with_reducible repeat (first | refine kN_ ?_ _ | refine k1_ ?_ | refine kA_ ?_ _)); refine blk_put (cs := #[.int .i64 t838, .int .i64 (-1)]) ?_ 1 _ rfl; (with_reducible repeat (first | refine kN_ ?_ _ | refine k1_ ?_ | refine kA_ ?_ _)); refine blk_put (cs := #[.int .i64 (-1), .int .i64 (-1)]) ?_ 0 _ rfl; (with_reducible repeat (first | refine kN_ ?_ _ | refine k1_ ?_ | refine kA_ ?_ _)); exact BK837.out) k_ hk)); (case aO => exact (by (with_reducible repeat (first | apply Kd.R_alloc | apply Kd.R_drewN | apply Kd.R_drew)); exact Kd.R_mono (Kd.R_far (p := ⟨gb837, 1, none⟩) (Kd.R_far (p := ⟨gb837, 0, none⟩) (Kd.R_mono HO_4.out (fun k_ hk => (⟨hk, hk.2⟩ : _ ∧ k_ ≠ gb837))) (fun _ hk => hk.2) (.int .i64 t838)) (fun _ hk => hk.2) (.int .i64 t839)) (fun _ hk => hk.1.2))); (case aS => exact (bZ_ (by repeat (with_reducible first | exact HB.out | apply bA_ | apply bN_ | apply b1_ | refine bS_ ?_ GE836.out | refine bS_ ?_ GE837.out)))); (case aL => have := LMc9.out; omega); intro v841 w19 ho hb hg hat; rw [← Ny840.out] at ho; have n0_ := Ad_.mk (Kd.R_over' (by (with_reducible repeat (first | apply Kd.R_alloc | apply Kd.R_drewN | apply Kd.R_drew)); exact (Kd.R_mono (Kd.R_far (p := ⟨gb837, 1, none⟩) (Kd.R_far (p := ⟨gb837, 0, none⟩) (Kd.R_types HO_3.out BK837.out (by decide)) (fun _ hk => hk.2) (.int .i64 t838)) (fun _ hk => hk.2) (.int .i64 t839)) (fun _ h_ => h_.1))) (Kd.R_typed (by (with_reducible repeat (first | apply Kd.R_alloc | apply Kd.R_drewN | apply Kd.R_drew)); exact (Kd.R_mono (Kd.R_far (p := ⟨gb837, 1, none⟩) (Kd.R_far (p := ⟨gb837, 0, none⟩) (Kd.R_mono HO_4.out (fun k_ hk => (⟨hk, hk.2⟩ : _ ∧ k_ ≠ gb837))) (fun _ hk => hk.2) (.int .i64 t838)) (fun _ hk => hk.2) (.int .i64 t839)) (fun _ h_ => h_.1)))) (by decide) hg); have n1_ := Ad_.mk (blk_grown (g := gb836) (o := .cells #[.int .i64 ((rd_T55 l0 x12_1).f0), .int .i64 ((rd_T55 l0 x12_1).f1), .int .i64 ((rd_T55 l0 x12_1).f2), .int .i64 ((rd_T55 l0 x12_1).f3), .int .i64 ((rd_T55 l0 x12_1).f4), .string ((rd_T55 l0 x12_1).f5), .string ((rd_T55 l0 x12_1).f6)] 55 (0, 0)) (by (with_reducible repeat (first | refine kN_ ?_ _ | refine k1_ ?_ | refine kA_ ?_ _)); refine blk_far ?_ NB836_837.out _; (with_reducible repeat (first | refine kN_ ?_ _ | refine k1_ ?_ | refine kA_ ?_ _)); refine blk_far ?_ NB836_837.out _; (with_reducible repeat (first | refine kN_ ?_ _ | refine k1_ ?_ | refine kA_ ?_ _)); exact BK836.out) hg (Kd.R_ne HO_4.out BK836.out (by decide))); have n2_ := Ad_.mk (blk_grown (g := gb837) (o := .cells #[.int .i64 t838, .int .i64 t839] 59 (0, 0)) (by (with_reducible repeat (first | refine kN_ ?_ _ | refine k1_ ?_ | refine kA_ ?_ _)); refine blk_put (cs := #[.int .i64 t838, .int .i64 (-1)]) ?_ 1 _ rfl; (with_reducible repeat (first | refine kN_ ?_ _ | refine k1_ ?_ | refine kA_ ?_ _)); refine blk_put (cs := #[.int .i64 (-1), .int .i64 (-1)]) ?_ 0 _ rfl; (with_reducible repeat (first | refine kN_ ?_ _ | refine k1_ ?_ | refine kA_ ?_ _)); exact BK837.out) hg (Kd.R_away HO_4.out (fun _ hk => hk.2))); have n3_ := Ad_.mk (hb); have n4_ := Ad_.mk (ho); clear HO_3; clear BK836; clear BK837; clear HB; clear HO_4; have HO_3 := n0_; have BK836 := n1_; have BK837 := n2_; have HB := n3_; have HO842 := n4_; clear n0_ n1_ n2_ n3_ n4_; clear ho hb hg hat))
      go_roundg k1
      case measure => have := HK1.out; omega
      case rel => exact ⟨(y840), (wrap64 (x12_1 + 1)), fs_, H', ⟨by have := HK1.out; omega⟩, ⟨by (with_reducible repeat (first | apply Kd.R_alloc | apply Kd.R_drewN | apply Kd.R_drew)); exact HO_3.out⟩, ⟨by (with_reducible repeat (first | apply Kd.R_alloc | apply Kd.R_drewN | apply Kd.R_drew)); exact Kd.R_mono HO842.out (fun _ hk => trivial)⟩, ⟨by repeat (with_reducible first | exact HB.out | apply bA_ | apply bN_ | apply b1_ | refine bS_ ?_ GE836.out | refine bS_ ?_ GE837.out)⟩⟩
def laws_eqBind.f (a0_0 : Int) (a0_1 : Int) (a1_0 : Int) (a1_1 : Int) : Option (Bool) := if a0_0 = a1_0 then (if a0_1 = a1_1 then (some true) else (some false)) else (some false)
set_option maxHeartbeats 8000000 in
set_option maxRecDepth 100000 in
theorem laws_eqBind.calls (a0_0 : Int) (a0_1 : Int) (a1_0 : Int) (a1_1 : Int) (r : Bool) (w : World) (h : laws_eqBind.f a0_0 a0_1 a1_0 a1_1 = some r) :
    Calls Tryd.prog 88 #[.agg #[.int .i64 a0_0, .int .i64 a0_1], .agg #[.int .i64 a1_0, .int .i64 a1_1]] w fun e w' => e = .returned (.bool r) ∧ Below w.heap.size w w' := by
  have hu59 := Tryd.underlying59
  have HB := Ad_.mk (Below.refl w.heap.size w)
  have H := h
  unfold laws_eqBind.f at H
  clear h
  by_cases c3 : a0_0 = a1_0
  rotate_left
  ·
   rw [if_neg c3] at H
   have c3b0 : (a0_0 == a1_0) = false := beq_eq_false_iff_ne.mpr c3
   have c3b1 : (a0_0 != a1_0) = true := bne_iff_ne.mpr c3
   obtain rfl := Option.some.inj H
   go_enter Tryd.func88, Tryd.ntmps88
   go_wp2_with (first | ((with_reducible refine gD_ (N := 2) rfl ?_); refine bE_ ?hg (N := 2) ?hd (cs := #[.int .i64 a0_0, .int .i64 a0_1]) (t := 59) ?hr ?_; (case hd => rfl); (case hg => rfl); (case hr => first | (go_simp; done) | (go_simp; rfl)); intro gb852 hg w15 hbox hb; have n0_ := Ad_.mk (bP_ (by repeat (with_reducible first | exact HB.out | apply bA_ | apply bN_ | apply b1_)) hb); have n1_ := Ad_.mk (hbox); have n2_ := Ad_.mk ((by rw [hg]; exact (bZ_ (by repeat (with_reducible first | exact HB.out | apply bA_ | apply bN_ | apply b1_))) : w.heap.size ≤ gb852)); have n3_ := Ad_.mk ((by rw [hg]; exact (bZ_ (by repeat (with_reducible first | exact HB.out | apply bA_ | apply bN_ | apply b1_))) : w.heap.size ≤ gb852)); clear HB; have HB := n0_; have BK852 := n1_; have GW852 := n2_; have GE852 := n3_; clear n0_ n1_ n2_ n3_; clear hb hbox hg) | ((with_reducible refine gD_ (N := 3) rfl ?_); refine bE_ ?hg (N := 3) ?hd (cs := #[.int .i64 a1_0, .int .i64 a1_1]) (t := 59) ?hr ?_; (case hd => rfl); (case hg => rfl); (case hr => first | (go_simp; done) | (go_simp; rfl)); intro gb853 hg w16 hbox hb; have n0_ := Ad_.mk (blk_below (g := gb852) (o := .cells #[.int .i64 a0_0, .int .i64 a0_1] 59 (0, 0)) (by (with_reducible repeat (first | refine kN_ ?_ _ | refine k1_ ?_ | refine kA_ ?_ _)); exact BK852.out) hb); have n1_ := Ad_.mk (bP_ (by repeat (with_reducible first | exact HB.out | apply bA_ | apply bN_ | apply b1_ | refine bS_ ?_ GE852.out)) hb); have n2_ := Ad_.mk (hbox); have n3_ := Ad_.mk ((by rw [hg]; exact (bZ_ (by repeat (with_reducible first | exact HB.out | apply bA_ | apply bN_ | apply b1_ | refine bS_ ?_ GE852.out))) : w.heap.size ≤ gb853)); have n4_ := Ad_.mk ((by rw [hg]; exact (bZ_ (by repeat (with_reducible first | exact HB.out | apply bA_ | apply bN_ | apply b1_ | refine bS_ ?_ GE852.out))) : w.heap.size ≤ gb853)); have n5_ := Ad_.mk ((by rw [hg]; exact Nat.ne_of_lt (blk_lt (g := gb852) (o := .cells #[.int .i64 a0_0, .int .i64 a0_1] 59 (0, 0)) (by (with_reducible repeat (first | refine kN_ ?_ _ | refine k1_ ?_ | refine kA_ ?_ _)); exact BK852.out)) : gb852 ≠ gb853)); have n6_ := Ad_.mk ((by rw [hg]; exact Nat.ne_of_gt (blk_lt (g := gb852) (o := .cells #[.int .i64 a0_0, .int .i64 a0_1] 59 (0, 0)) (by (with_reducible repeat (first | refine kN_ ?_ _ | refine k1_ ?_ | refine kA_ ?_ _)); exact BK852.out)) : gb853 ≠ gb852)); clear BK852; clear HB; have BK852 := n0_; have HB := n1_; have BK853 := n2_; have GW853 := n3_; have GE853 := n4_; have NB852_853 := n5_; have NB853_852 := n6_; clear n0_ n1_ n2_ n3_ n4_ n5_ n6_; clear hb hbox hg; have hnb17 := NB852_853.out; have hnc17 := NB853_852.out; obtain ⟨hcz18_0, hcz18_1⟩ := cells2_ BK852.out; obtain ⟨hfz18_0, hfz18_1⟩ := froz2_ BK852.out; obtain ⟨hcz19_0, hcz19_1⟩ := cells2_ BK853.out; obtain ⟨hfz19_0, hfz19_1⟩ := froz2_ BK853.out))
   go_ret
   exact ⟨by first | rfl | (simp [errW_none, errW_some] <;> rfl) | (simp [*, errW_none, errW_some] <;> rfl), by repeat (with_reducible first | exact HB.out | apply bA_ | apply bN_ | apply b1_ | refine bS_ ?_ GE852.out | refine bS_ ?_ GE853.out)⟩
  rw [if_pos c3] at H
  have c3b0 : (a0_0 == a1_0) = true := beq_iff_eq.mpr c3
  have c3b1 : (a0_0 != a1_0) = false := bne_eq_false_iff_eq.mpr c3
  clear c3
  by_cases c4 : a0_1 = a1_1
  rotate_left
  ·
   rw [if_neg c4] at H
   have c4b0 : (a0_1 == a1_1) = false := beq_eq_false_iff_ne.mpr c4
   have c4b1 : (a0_1 != a1_1) = true := bne_iff_ne.mpr c4
   obtain rfl := Option.some.inj H
   go_enter Tryd.func88, Tryd.ntmps88
   go_wp2_with (first | ((with_reducible refine gD_ (N := 2) rfl ?_); refine bE_ ?hg (N := 2) ?hd (cs := #[.int .i64 a0_0, .int .i64 a0_1]) (t := 59) ?hr ?_; (case hd => rfl); (case hg => rfl); (case hr => first | (go_simp; done) | (go_simp; rfl)); intro gb852 hg w10 hbox hb; have n0_ := Ad_.mk (bP_ (by repeat (with_reducible first | exact HB.out | apply bA_ | apply bN_ | apply b1_)) hb); have n1_ := Ad_.mk (hbox); have n2_ := Ad_.mk ((by rw [hg]; exact (bZ_ (by repeat (with_reducible first | exact HB.out | apply bA_ | apply bN_ | apply b1_))) : w.heap.size ≤ gb852)); have n3_ := Ad_.mk ((by rw [hg]; exact (bZ_ (by repeat (with_reducible first | exact HB.out | apply bA_ | apply bN_ | apply b1_))) : w.heap.size ≤ gb852)); clear HB; have HB := n0_; have BK852 := n1_; have GW852 := n2_; have GE852 := n3_; clear n0_ n1_ n2_ n3_; clear hb hbox hg) | ((with_reducible refine gD_ (N := 3) rfl ?_); refine bE_ ?hg (N := 3) ?hd (cs := #[.int .i64 a1_0, .int .i64 a1_1]) (t := 59) ?hr ?_; (case hd => rfl); (case hg => rfl); (case hr => first | (go_simp; done) | (go_simp; rfl)); intro gb853 hg w11 hbox hb; have n0_ := Ad_.mk (blk_below (g := gb852) (o := .cells #[.int .i64 a0_0, .int .i64 a0_1] 59 (0, 0)) (by (with_reducible repeat (first | refine kN_ ?_ _ | refine k1_ ?_ | refine kA_ ?_ _)); exact BK852.out) hb); have n1_ := Ad_.mk (bP_ (by repeat (with_reducible first | exact HB.out | apply bA_ | apply bN_ | apply b1_ | refine bS_ ?_ GE852.out)) hb); have n2_ := Ad_.mk (hbox); have n3_ := Ad_.mk ((by rw [hg]; exact (bZ_ (by repeat (with_reducible first | exact HB.out | apply bA_ | apply bN_ | apply b1_ | refine bS_ ?_ GE852.out))) : w.heap.size ≤ gb853)); have n4_ := Ad_.mk ((by rw [hg]; exact (bZ_ (by repeat (with_reducible first | exact HB.out | apply bA_ | apply bN_ | apply b1_ | refine bS_ ?_ GE852.out))) : w.heap.size ≤ gb853)); have n5_ := Ad_.mk ((by rw [hg]; exact Nat.ne_of_lt (blk_lt (g := gb852) (o := .cells #[.int .i64 a0_0, .int .i64 a0_1] 59 (0, 0)) (by (with_reducible repeat (first | refine kN_ ?_ _ | refine k1_ ?_ | refine kA_ ?_ _)); exact BK852.out)) : gb852 ≠ gb853)); have n6_ := Ad_.mk ((by rw [hg]; exact Nat.ne_of_gt (blk_lt (g := gb852) (o := .cells #[.int .i64 a0_0, .int .i64 a0_1] 59 (0, 0)) (by (with_reducible repeat (first | refine kN_ ?_ _ | refine k1_ ?_ | refine kA_ ?_ _)); exact BK852.out)) : gb853 ≠ gb852)); clear BK852; clear HB; have BK852 := n0_; have HB := n1_; have BK853 := n2_; have GW853 := n3_; have GE853 := n4_; have NB852_853 := n5_; have NB853_852 := n6_; clear n0_ n1_ n2_ n3_ n4_ n5_ n6_; clear hb hbox hg; have hnb12 := NB852_853.out; have hnc12 := NB853_852.out; obtain ⟨hcz13_0, hcz13_1⟩ := cells2_ BK852.out; obtain ⟨hfz13_0, hfz13_1⟩ := froz2_ BK852.out; obtain ⟨hcz14_0, hcz14_1⟩ := cells2_ BK853.out; obtain ⟨hfz14_0, hfz14_1⟩ := froz2_ BK853.out))
   go_ret
   exact ⟨by first | rfl | (simp [errW_none, errW_some] <;> rfl) | (simp [*, errW_none, errW_some] <;> rfl), by repeat (with_reducible first | exact HB.out | apply bA_ | apply bN_ | apply b1_ | refine bS_ ?_ GE852.out | refine bS_ ?_ GE853.out)⟩
  rw [if_pos c4] at H
  have c4b0 : (a0_1 == a1_1) = true := beq_iff_eq.mpr c4
  have c4b1 : (a0_1 != a1_1) = false := bne_eq_false_iff_eq.mpr c4
  clear c4
  obtain rfl := Option.some.inj H
  go_enter Tryd.func88, Tryd.ntmps88
  go_wp2_with (first | ((with_reducible refine gD_ (N := 2) rfl ?_); refine bE_ ?hg (N := 2) ?hd (cs := #[.int .i64 a0_0, .int .i64 a0_1]) (t := 59) ?hr ?_; (case hd => rfl); (case hg => rfl); (case hr => first | (go_simp; done) | (go_simp; rfl)); intro gb852 hg w5 hbox hb; have n0_ := Ad_.mk (bP_ (by repeat (with_reducible first | exact HB.out | apply bA_ | apply bN_ | apply b1_)) hb); have n1_ := Ad_.mk (hbox); have n2_ := Ad_.mk ((by rw [hg]; exact (bZ_ (by repeat (with_reducible first | exact HB.out | apply bA_ | apply bN_ | apply b1_))) : w.heap.size ≤ gb852)); have n3_ := Ad_.mk ((by rw [hg]; exact (bZ_ (by repeat (with_reducible first | exact HB.out | apply bA_ | apply bN_ | apply b1_))) : w.heap.size ≤ gb852)); clear HB; have HB := n0_; have BK852 := n1_; have GW852 := n2_; have GE852 := n3_; clear n0_ n1_ n2_ n3_; clear hb hbox hg) | ((with_reducible refine gD_ (N := 3) rfl ?_); refine bE_ ?hg (N := 3) ?hd (cs := #[.int .i64 a1_0, .int .i64 a1_1]) (t := 59) ?hr ?_; (case hd => rfl); (case hg => rfl); (case hr => first | (go_simp; done) | (go_simp; rfl)); intro gb853 hg w6 hbox hb; have n0_ := Ad_.mk (blk_below (g := gb852) (o := .cells #[.int .i64 a0_0, .int .i64 a0_1] 59 (0, 0)) (by (with_reducible repeat (first | refine kN_ ?_ _ | refine k1_ ?_ | refine kA_ ?_ _)); exact BK852.out) hb); have n1_ := Ad_.mk (bP_ (by repeat (with_reducible first | exact HB.out | apply bA_ | apply bN_ | apply b1_ | refine bS_ ?_ GE852.out)) hb); have n2_ := Ad_.mk (hbox); have n3_ := Ad_.mk ((by rw [hg]; exact (bZ_ (by repeat (with_reducible first | exact HB.out | apply bA_ | apply bN_ | apply b1_ | refine bS_ ?_ GE852.out))) : w.heap.size ≤ gb853)); have n4_ := Ad_.mk ((by rw [hg]; exact (bZ_ (by repeat (with_reducible first | exact HB.out | apply bA_ | apply bN_ | apply b1_ | refine bS_ ?_ GE852.out))) : w.heap.size ≤ gb853)); have n5_ := Ad_.mk ((by rw [hg]; exact Nat.ne_of_lt (blk_lt (g := gb852) (o := .cells #[.int .i64 a0_0, .int .i64 a0_1] 59 (0, 0)) (by (with_reducible repeat (first | refine kN_ ?_ _ | refine k1_ ?_ | refine kA_ ?_ _)); exact BK852.out)) : gb852 ≠ gb853)); have n6_ := Ad_.mk ((by rw [hg]; exact Nat.ne_of_gt (blk_lt (g := gb852) (o := .cells #[.int .i64 a0_0, .int .i64 a0_1] 59 (0, 0)) (by (with_reducible repeat (first | refine kN_ ?_ _ | refine k1_ ?_ | refine kA_ ?_ _)); exact BK852.out)) : gb853 ≠ gb852)); clear BK852; clear HB; have BK852 := n0_; have HB := n1_; have BK853 := n2_; have GW853 := n3_; have GE853 := n4_; have NB852_853 := n5_; have NB853_852 := n6_; clear n0_ n1_ n2_ n3_ n4_ n5_ n6_; clear hb hbox hg; have hnb7 := NB852_853.out; have hnc7 := NB853_852.out; obtain ⟨hcz8_0, hcz8_1⟩ := cells2_ BK852.out; obtain ⟨hfz8_0, hfz8_1⟩ := froz2_ BK852.out; obtain ⟨hcz9_0, hcz9_1⟩ := cells2_ BK853.out; obtain ⟨hfz9_0, hfz9_1⟩ := froz2_ BK853.out))
  go_ret
  exact ⟨by first | rfl | (simp [errW_none, errW_some] <;> rfl) | (simp [*, errW_none, errW_some] <;> rfl), by repeat (with_reducible first | exact HB.out | apply bA_ | apply bN_ | apply b1_ | refine bS_ ?_ GE852.out | refine bS_ ?_ GE853.out)⟩
end Go.Proofs.YtfmlamheflbgdaaDoor.PAll
end
section
namespace Go.Proofs.YtfmlamheflbgdaaDoor.PAll
open Go.RowKit
theorem fieldBind_0 (a b : Int) (W : World) : (Instr.field 59 (.agg #[.int .i64 a, .int .i64 b]) 0).run Tryd.prog W = .ok (.int .i64 a) W := by
  have hu := Tryd.underlying59
  have h3 := Tryd.isAgg3
  simp [Instr.field, underlying, hu, asAgg, part, h3]
end Go.Proofs.YtfmlamheflbgdaaDoor.PAll
end
section
namespace Go.Proofs.YtfmlamheflbgdaaDoor.PAll
open Go.RowKit Go.Proofs.YtfmlamheflbgdaaDoorW.PrintWords Go.Proofs.YtfmlamheflbgdaaDoorW.PrintLast Go.Proofs.YtfmlamheflbgdaaDoorW.PrintMore
attribute [local go_sem] max2_int min2_int max_two min_two max_three min_three max_four min_four
set_option linter.unusedVariables false
set_option linter.unusedSimpArgs false
def impl_aheadOf.j0 : Nat → Int → Bool → Option (Int)
  | 0, _, _ => none
  | k + 1, x3, x4 => if x4 = true then (some 2) else (if x3 = 10 then (some 1) else (if x3 = 11 then (some 1) else (if x3 = 15 then (some 1) else (if x3 = 16 then (some 1) else (if x3 = 18 then (some 1) else (if x3 = 7 then (some 1) else (if x3 = 14 then (some 1) else (some 0))))))))
def impl_aheadOf.f (k : Nat) (a0 : Int) : Option (Int) := if a0 = 4 then (impl_aheadOf.j0 k a0 (a0 == 4)) else (if a0 = 8 then (impl_aheadOf.j0 k a0 (a0 == 8)) else (if a0 = 9 then (impl_aheadOf.j0 k a0 (a0 == 9)) else (if a0 = 13 then (impl_aheadOf.j0 k a0 (a0 == 13)) else (impl_aheadOf.j0 k a0 (a0 == 17)))))
theorem impl_aheadOf.mono_l : ∀ k, (∀ y0 y1, LeO (impl_aheadOf.j0 k y0 y1) (impl_aheadOf.j0 (k + 1) y0 y1))
  | 0 => fun _ _ r h => by simp [impl_aheadOf.j0] at h
  | k + 1 => by
    have ih0 := impl_aheadOf.mono_l k
    · intro y0 y1
      unfold impl_aheadOf.j0
      repeat' first
      | (with_reducible exact ih0 _ _)
      | (with_reducible exact LeO.refl _)
      | (with_reducible exact LeO.none _)
      | (with_reducible refine LeO.ite ?_ ?_)
      | (with_reducible refine LeO.bind ?_ (fun _ => ?_))
      | exact LeO.none _
      | refine LeO.ite ?_ ?_
      | refine LeO.bind ?_ (fun _ => ?_)
theorem impl_aheadOf.mono : ∀ a0 k, LeO (impl_aheadOf.f k a0) (impl_aheadOf.f (k + 1) a0) := by
  intro a0 k
  have ih0 := impl_aheadOf.mono_l k
  unfold impl_aheadOf.f
  repeat' first
      | (with_reducible exact ih0 _ _)
      | (with_reducible exact LeO.refl _)
      | (with_reducible exact LeO.none _)
      | (with_reducible refine LeO.ite ?_ ?_)
      | (with_reducible refine LeO.bind ?_ (fun _ => ?_))
      | exact LeO.none _
      | refine LeO.ite ?_ ?_
      | refine LeO.bind ?_ (fun _ => ?_)
set_option maxHeartbeats 8000000 in
set_option maxRecDepth 100000 in
theorem impl_aheadOf.calls (k : Nat) (a0 : Int) (r : Int) (w : World) (h : impl_aheadOf.f k a0 = some r) :
    Calls Tryd.prog 65 #[.int .i64 a0] w fun e w' => e = .returned (.int .i64 r) ∧ Drawn0 w w' := by
  have H := h
  unfold impl_aheadOf.f at H
  clear h
  have HC2 := Ad_.mk H
  clear H
  go_enter Tryd.func65, Tryd.ntmps65
  go_upto_if 4 with (fail)
  go_cut [4] (fun v4 wc => ∃ (kq : Nat) (x4_1 : Bool), v4 = .bool x4_1 ∧ Ad_ (impl_aheadOf.j0 kq a0 x4_1 = some r) ∧ Ad_ (kq ≤ k) ∧ Drawn0 w wc)
  case first =>
    have H := HC2.out
    clear HC2
    by_cases c3 : a0 = 4
    ·
     rw [if_pos c3] at H
     have c3b0 : (a0 == 4) = true := beq_iff_eq.mpr c3
     have c3b1 : (a0 != 4) = false := bne_eq_false_iff_eq.mpr c3
     clear c3
     (first | rw [c3b0] | (simp only [i64_w, i32_w]; rw [c3b0]) | skip)
     have H' := Ad_.mk H
     clear H
     go_wp2
     go_meet
     case rel => exact ⟨_, ((a0 == 4)), fs_, H', ⟨by first | omega | exact Nat.le_refl _⟩, by repeat (first | exact Drawn0.refl _ | apply Drawn0.step)⟩
    rw [if_neg c3] at H
    have c3b0 : (a0 == 4) = false := beq_eq_false_iff_ne.mpr c3
    have c3b1 : (a0 != 4) = true := bne_iff_ne.mpr c3
    (first | rw [c3b0] | (simp only [i64_w, i32_w]; rw [c3b0]) | skip)
    by_cases c4 : a0 = 8
    ·
     rw [if_pos c4] at H
     have c4b0 : (a0 == 8) = true := beq_iff_eq.mpr c4
     have c4b1 : (a0 != 8) = false := bne_eq_false_iff_eq.mpr c4
     clear c4
     have H' := Ad_.mk H
     clear H
     go_wp2
     go_meet
     case rel => exact ⟨_, ((a0 == 8)), fs_, H', ⟨by first | omega | exact Nat.le_refl _⟩, by repeat (first | exact Drawn0.refl _ | apply Drawn0.step)⟩
    rw [if_neg c4] at H
    have c4b0 : (a0 == 8) = false := beq_eq_false_iff_ne.mpr c4
    have c4b1 : (a0 != 8) = true := bne_iff_ne.mpr c4
    by_cases c5 : a0 = 9
    ·
     rw [if_pos c5] at H
     have c5b0 : (a0 == 9) = true := beq_iff_eq.mpr c5
     have c5b1 : (a0 != 9) = false := bne_eq_false_iff_eq.mpr c5
     clear c5
     have H' := Ad_.mk H
     clear H
     go_wp2
     go_meet
     case rel => exact ⟨_, ((a0 == 9)), fs_, H', ⟨by first | omega | exact Nat.le_refl _⟩, by repeat (first | exact Drawn0.refl _ | apply Drawn0.step)⟩
    rw [if_neg c5] at H
    have c5b0 : (a0 == 9) = false := beq_eq_false_iff_ne.mpr c5
    have c5b1 : (a0 != 9) = true := bne_iff_ne.mpr c5
    by_cases c6 : a0 = 13
    rotate_left
    ·
     rw [if_neg c6] at H
     have c6b0 : (a0 == 13) = false := beq_eq_false_iff_ne.mpr c6
     have c6b1 : (a0 != 13) = true := bne_iff_ne.mpr c6
     have H' := Ad_.mk H
     clear H
     go_wp2
     go_meet
     case rel => exact ⟨_, ((a0 == 17)), fs_, H', ⟨by first | omega | exact Nat.le_refl _⟩, by repeat (first | exact Drawn0.refl _ | apply Drawn0.step)⟩
    rw [if_pos c6] at H
    have c6b0 : (a0 == 13) = true := beq_iff_eq.mpr c6
    have c6b1 : (a0 != 13) = false := bne_eq_false_iff_eq.mpr c6
    clear c6
    have H' := Ad_.mk H
    clear H
    go_wp2
    go_meet
    case rel => exact ⟨_, ((a0 == 13)), fs_, H', ⟨by first | omega | exact Nat.le_refl _⟩, by repeat (first | exact Drawn0.refl _ | apply Drawn0.step)⟩
  case rest =>
    clear HC2
    try clear p2
    try clear c3b0 c3b1
    try clear c4b0 c4b1
    try clear c5b0 c5b1
    try clear c6b0 c6b1
    obtain ⟨kq, x4_1, rfl, HA, HJ1, ⟨mc1, rfl⟩⟩ := hcut
    cases kq with
    | zero => exact absurd HA.out (by simp [impl_aheadOf.j0])
    | succ kj1 =>
      have H := HA.out
      clear HA
      simp only [impl_aheadOf.j0] at H
      by_cases c7 : x4_1 = true
      ·
       subst c7
       have H1 : (some 2) = some r := by rw [if_pos rfl] at H; exact H
       clear H
       have H := H1
       clear H1
       obtain rfl := Option.some.inj H
       go_wp2
       go_ret
       exact ⟨by first | rfl | (simp; done) | (simp [*]; done), by repeat (first | exact Drawn0.refl _ | apply Drawn0.step)⟩
      replace c7 := Bool.eq_false_iff.mpr c7
      subst c7
      have H1 : (if a0 = 10 then (some 1) else (if a0 = 11 then (some 1) else (if a0 = 15 then (some 1) else (if a0 = 16 then (some 1) else (if a0 = 18 then (some 1) else (if a0 = 7 then (some 1) else (if a0 = 14 then (some 1) else (some 0)))))))) = some r := by rw [if_neg (show ¬ (false = true) by decide)] at H; exact H
      clear H
      have H := H1
      clear H1
      by_cases c8 : a0 = 10
      ·
       rw [if_pos c8] at H
       have c8b0 : (a0 == 10) = true := beq_iff_eq.mpr c8
       have c8b1 : (a0 != 10) = false := bne_eq_false_iff_eq.mpr c8
       clear c8
       obtain rfl := Option.some.inj H
       go_wp2
       go_ret
       exact ⟨by first | rfl | (simp; done) | (simp [*]; done), by repeat (first | exact Drawn0.refl _ | apply Drawn0.step)⟩
      rw [if_neg c8] at H
      have c8b0 : (a0 == 10) = false := beq_eq_false_iff_ne.mpr c8
      have c8b1 : (a0 != 10) = true := bne_iff_ne.mpr c8
      by_cases c9 : a0 = 11
      ·
       rw [if_pos c9] at H
       have c9b0 : (a0 == 11) = true := beq_iff_eq.mpr c9
       have c9b1 : (a0 != 11) = false := bne_eq_false_iff_eq.mpr c9
       clear c9
       obtain rfl := Option.some.inj H
       go_wp2
       go_ret
       exact ⟨by first | rfl | (simp; done) | (simp [*]; done), by repeat (first | exact Drawn0.refl _ | apply Drawn0.step)⟩
      rw [if_neg c9] at H
      have c9b0 : (a0 == 11) = false := beq_eq_false_iff_ne.mpr c9
      have c9b1 : (a0 != 11) = true := bne_iff_ne.mpr c9
      by_cases c10 : a0 = 15
      ·
       rw [if_pos c10] at H
       have c10b0 : (a0 == 15) = true := beq_iff_eq.mpr c10
       have c10b1 : (a0 != 15) = false := bne_eq_false_iff_eq.mpr c10
       clear c10
       obtain rfl := Option.some.inj H
       go_wp2
       go_ret
       exact ⟨by first | rfl | (simp; done) | (simp [*]; done), by repeat (first | exact Drawn0.refl _ | apply Drawn0.step)⟩
      rw [if_neg c10] at H
      have c10b0 : (a0 == 15) = false := beq_eq_false_iff_ne.mpr c10
      have c10b1 : (a0 != 15) = true := bne_iff_ne.mpr c10
      by_cases c11 : a0 = 16
      ·
       rw [if_pos c11] at H
       have c11b0 : (a0 == 16) = true := beq_iff_eq.mpr c11
       have c11b1 : (a0 != 16) = false := bne_eq_false_iff_eq.mpr c11
       clear c11
       obtain rfl := Option.some.inj H
       go_wp2
       go_ret
       exact ⟨by first | rfl | (simp; done) | (simp [*]; done), by repeat (first | exact Drawn0.refl _ | apply Drawn0.step)⟩
      rw [if_neg c11] at H
      have c11b0 : (a0 == 16) = false := beq_eq_false_iff_ne.mpr c11
      have c11b1 : (a0 != 16) = true := bne_iff_ne.mpr c11
      by_cases c12 : a0 = 18
      ·
       rw [if_pos c12] at H
       have c12b0 : (a0 == 18) = true := beq_iff_eq.mpr c12
       have c12b1 : (a0 != 18) = false := bne_eq_false_iff_eq.mpr c12
       clear c12
       obtain rfl := Option.some.inj H
       go_wp2
       go_ret
       exact ⟨by first | rfl | (simp; done) | (simp [*]; done), by repeat (first | exact Drawn0.refl _ | apply Drawn0.step)⟩
      rw [if_neg c12] at H
      have c12b0 : (a0 == 18) = false := beq_eq_false_iff_ne.mpr c12
      have c12b1 : (a0 != 18) = true := bne_iff_ne.mpr c12
      by_cases c13 : a0 = 7
      ·
       rw [if_pos c13] at H
       have c13b0 : (a0 == 7) = true := beq_iff_eq.mpr c13
       have c13b1 : (a0 != 7) = false := bne_eq_false_iff_eq.mpr c13
       clear c13
       obtain rfl := Option.some.inj H
       go_wp2
       go_ret
       exact ⟨by first | rfl | (simp; done) | (simp [*]; done), by repeat (first | exact Drawn0.refl _ | apply Drawn0.step)⟩
      rw [if_neg c13] at H
      have c13b0 : (a0 == 7) = false := beq_eq_false_iff_ne.mpr c13
      have c13b1 : (a0 != 7) = true := bne_iff_ne.mpr c13
      by_cases c14 : a0 = 14
      rotate_left
      ·
       rw [if_neg c14] at H
       have c14b0 : (a0 == 14) = false := beq_eq_false_iff_ne.mpr c14
       have c14b1 : (a0 != 14) = true := bne_iff_ne.mpr c14
       obtain rfl := Option.some.inj H
       go_wp2
       go_ret
       exact ⟨by first | rfl | (simp; done) | (simp [*]; done), by repeat (first | exact Drawn0.refl _ | apply Drawn0.step)⟩
      rw [if_pos c14] at H
      have c14b0 : (a0 == 14) = true := beq_iff_eq.mpr c14
      have c14b1 : (a0 != 14) = false := bne_eq_false_iff_eq.mpr c14
      clear c14
      obtain rfl := Option.some.inj H
      go_wp2
      go_ret
      exact ⟨by first | rfl | (simp; done) | (simp [*]; done), by repeat (first | exact Drawn0.refl _ | apply Drawn0.step)⟩
def impl_IsAtom.f (a0_0 : Int) (a0_1 : Int) (a0_2 : Int) (a0_3 : Int) (a0_4 : Int) (a0_5 : ByteArray) (a0_6 : ByteArray) : Option (Bool) := if a0_0 = 1 then (some true) else (if a0_0 = 2 then (some true) else (some (a0_0 == 12)))
set_option maxHeartbeats 8000000 in
set_option maxRecDepth 100000 in
theorem impl_IsAtom.calls (a0_0 : Int) (a0_1 : Int) (a0_2 : Int) (a0_3 : Int) (a0_4 : Int) (a0_5 : ByteArray) (a0_6 : ByteArray) (r : Bool) (w : World) (h : impl_IsAtom.f a0_0 a0_1 a0_2 a0_3 a0_4 a0_5 a0_6 = some r) :
    Calls Tryd.prog 66 #[.agg #[.int .i64 a0_0, .int .i64 a0_1, .int .i64 a0_2, .int .i64 a0_3, .int .i64 a0_4, .string a0_5, .string a0_6]] w fun e w' => e = .returned (.bool r) ∧ Below w.heap.size w w' := by
  have hu55 := Tryd.underlying55
  have HB := Ad_.mk (Below.refl w.heap.size w)
  have H := h
  unfold impl_IsAtom.f at H
  clear h
  by_cases c2 : a0_0 = 1
  ·
   rw [if_pos c2] at H
   have c2b0 : (a0_0 == 1) = true := beq_iff_eq.mpr c2
   have c2b1 : (a0_0 != 1) = false := bne_eq_false_iff_eq.mpr c2
   clear c2
   obtain rfl := Option.some.inj H
   go_enter Tryd.func66, Tryd.ntmps66
   go_wp2_with (first | ((with_reducible refine gD_ (N := 1) rfl ?_); refine bE_ ?hg (N := 1) ?hd (cs := #[.int .i64 a0_0, .int .i64 a0_1, .int .i64 a0_2, .int .i64 a0_3, .int .i64 a0_4, .string a0_5, .string a0_6]) (t := 55) ?hr ?_; (case hd => rfl); (case hg => rfl); (case hr => first | (go_simp; done) | (go_simp; rfl)); intro gb246 hg w3 hbox hb; have n0_ := Ad_.mk (bP_ (by repeat (with_reducible first | exact HB.out | apply bA_ | apply bN_ | apply b1_)) hb); have n1_ := Ad_.mk (hbox); have n2_ := Ad_.mk ((by rw [hg]; exact (bZ_ (by repeat (with_reducible first | exact HB.out | apply bA_ | apply bN_ | apply b1_))) : w.heap.size ≤ gb246)); have n3_ := Ad_.mk ((by rw [hg]; exact (bZ_ (by repeat (with_reducible first | exact HB.out | apply bA_ | apply bN_ | apply b1_))) : w.heap.size ≤ gb246)); clear HB; have HB := n0_; have BK246 := n1_; have GW246 := n2_; have GE246 := n3_; clear n0_ n1_ n2_ n3_; clear hb hbox hg; obtain ⟨hcz4_0, hcz4_1, hcz4_2, hcz4_3, hcz4_4, hcz4_5, hcz4_6⟩ := cells7_ BK246.out; obtain ⟨hfz4_0, hfz4_1, hfz4_2, hfz4_3, hfz4_4, hfz4_5, hfz4_6⟩ := froz7_ BK246.out))
   go_ret
   exact ⟨by first | rfl | (simp [errW_none, errW_some] <;> rfl) | (simp [*, errW_none, errW_some] <;> rfl), by repeat (with_reducible first | exact HB.out | apply bA_ | apply bN_ | apply b1_ | refine bS_ ?_ GE246.out)⟩
  rw [if_neg c2] at H
  have c2b0 : (a0_0 == 1) = false := beq_eq_false_iff_ne.mpr c2
  have c2b1 : (a0_0 != 1) = true := bne_iff_ne.mpr c2
  by_cases c5 : a0_0 = 2
  rotate_left
  ·
   rw [if_neg c5] at H
   have c5b0 : (a0_0 == 2) = false := beq_eq_false_iff_ne.mpr c5
   have c5b1 : (a0_0 != 2) = true := bne_iff_ne.mpr c5
   obtain rfl := Option.some.inj H
   go_enter Tryd.func66, Tryd.ntmps66
   go_wp2_with (first | ((with_reducible refine gD_ (N := 1) rfl ?_); refine bE_ ?hg (N := 1) ?hd (cs := #[.int .i64 a0_0, .int .i64 a0_1, .int .i64 a0_2, .int .i64 a0_3, .int .i64 a0_4, .string a0_5, .string a0_6]) (t := 55) ?hr ?_; (case hd => rfl); (case hg => rfl); (case hr => first | (go_simp; done) | (go_simp; rfl)); intro gb246 hg w8 hbox hb; have n0_ := Ad_.mk (bP_ (by repeat (with_reducible first | exact HB.out | apply bA_ | apply bN_ | apply b1_)) hb); have n1_ := Ad_.mk (hbox); have n2_ := Ad_.mk ((by rw [hg]; exact (bZ_ (by repeat (with_reducible first | exact HB.out | apply bA_ | apply bN_ | apply b1_))) : w.heap.size ≤ gb246)); have n3_ := Ad_.mk ((by rw [hg]; exact (bZ_ (by repeat (with_reducible first | exact HB.out | apply bA_ | apply bN_ | apply b1_))) : w.heap.size ≤ gb246)); clear HB; have HB := n0_; have BK246 := n1_; have GW246 := n2_; have GE246 := n3_; clear n0_ n1_ n2_ n3_; clear hb hbox hg; obtain ⟨hcz9_0, hcz9_1, hcz9_2, hcz9_3, hcz9_4, hcz9_5, hcz9_6⟩ := cells7_ BK246.out; obtain ⟨hfz9_0, hfz9_1, hfz9_2, hfz9_3, hfz9_4, hfz9_5, hfz9_6⟩ := froz7_ BK246.out))
   go_ret
   exact ⟨by first | rfl | (simp [errW_none, errW_some] <;> rfl) | (simp [*, errW_none, errW_some] <;> rfl), by repeat (with_reducible first | exact HB.out | apply bA_ | apply bN_ | apply b1_ | refine bS_ ?_ GE246.out)⟩
  rw [if_pos c5] at H
  have c5b0 : (a0_0 == 2) = true := beq_iff_eq.mpr c5
  have c5b1 : (a0_0 != 2) = false := bne_eq_false_iff_eq.mpr c5
  clear c5
  obtain rfl := Option.some.inj H
  go_enter Tryd.func66, Tryd.ntmps66
  go_wp2_with (first | ((with_reducible refine gD_ (N := 1) rfl ?_); refine bE_ ?hg (N := 1) ?hd (cs := #[.int .i64 a0_0, .int .i64 a0_1, .int .i64 a0_2, .int .i64 a0_3, .int .i64 a0_4, .string a0_5, .string a0_6]) (t := 55) ?hr ?_; (case hd => rfl); (case hg => rfl); (case hr => first | (go_simp; done) | (go_simp; rfl)); intro gb246 hg w6 hbox hb; have n0_ := Ad_.mk (bP_ (by repeat (with_reducible first | exact HB.out | apply bA_ | apply bN_ | apply b1_)) hb); have n1_ := Ad_.mk (hbox); have n2_ := Ad_.mk ((by rw [hg]; exact (bZ_ (by repeat (with_reducible first | exact HB.out | apply bA_ | apply bN_ | apply b1_))) : w.heap.size ≤ gb246)); have n3_ := Ad_.mk ((by rw [hg]; exact (bZ_ (by repeat (with_reducible first | exact HB.out | apply bA_ | apply bN_ | apply b1_))) : w.heap.size ≤ gb246)); clear HB; have HB := n0_; have BK246 := n1_; have GW246 := n2_; have GE246 := n3_; clear n0_ n1_ n2_ n3_; clear hb hbox hg; obtain ⟨hcz7_0, hcz7_1, hcz7_2, hcz7_3, hcz7_4, hcz7_5, hcz7_6⟩ := cells7_ BK246.out; obtain ⟨hfz7_0, hfz7_1, hfz7_2, hfz7_3, hfz7_4, hfz7_5, hfz7_6⟩ := froz7_ BK246.out))
  go_ret
  exact ⟨by first | rfl | (simp [errW_none, errW_some] <;> rfl) | (simp [*, errW_none, errW_some] <;> rfl), by repeat (with_reducible first | exact HB.out | apply bA_ | apply bN_ | apply b1_ | refine bS_ ?_ GE246.out)⟩
end Go.Proofs.YtfmlamheflbgdaaDoor.PAll
end
section
namespace Go.Proofs.YtfmlamheflbgdaaDoor.PAll
open Go.RowKit Go.Proofs.YtfmlamheflbgdaaDoorW.PrintWords Go.Proofs.YtfmlamheflbgdaaDoorW.PrintLast Go.Proofs.YtfmlamheflbgdaaDoorW.PrintMore
attribute [local go_sem] max2_int min2_int max_two min_two max_three min_three max_four min_four
set_option linter.unusedVariables false
set_option linter.unusedSimpArgs false
mutual
def impl_AnfOk.l0 : Nat → List (S55) → List (S55) → Int → Int → Option (Bool)
  | 0, _, _, _, _ => none
  | k + 1, x0, x10, x11, x12 => if x12 < x11 then (if 0 ≤ x12 then (if x12 < (x10.length : Int) then ((impl_Kids.f k ((rd_T55 x10 x12).f0) ((rd_T55 x10 x12).f1) ((rd_T55 x10 x12).f2) ((rd_T55 x10 x12).f3) ((rd_T55 x10 x12).f4) ((rd_T55 x10 x12).f5) ((rd_T55 x10 x12).f6)).bind fun t250 => (impl_AnfOk.l1 k x0 x10 x11 x12 t250 (t250.length : Int) 0 ((rd_T55 x10 x12).f0) ((rd_T55 x10 x12).f1) ((rd_T55 x10 x12).f2) ((rd_T55 x10 x12).f3) ((rd_T55 x10 x12).f4) ((rd_T55 x10 x12).f5) ((rd_T55 x10 x12).f6))) else (none)) else (none)) else (some true)
def impl_AnfOk.l1 : Nat → List (S55) → List (S55) → Int → Int → List Int → Int → Int → Int → Int → Int → Int → Int → ByteArray → ByteArray → Option (Bool)
  | 0, _, _, _, _, _, _, _, _, _, _, _, _, _, _ => none
  | k + 1, x0, x10, x11, x12, x17, x18, x19, x250000, x250001, x250002, x250003, x250004, x250005, x250006 => if x19 < x18 then (if 0 ≤ x19 then (if x19 < (x17.length : Int) then ((impl_aheadOf.f k x250000).bind fun t254 => (if x19 < t254 then (if 0 ≤ (rd x17 x19) then (if (rd x17 x19) < (x0.length : Int) then ((impl_IsAtom.f ((rd_T55 x0 (rd x17 x19)).f0) ((rd_T55 x0 (rd x17 x19)).f1) ((rd_T55 x0 (rd x17 x19)).f2) ((rd_T55 x0 (rd x17 x19)).f3) ((rd_T55 x0 (rd x17 x19)).f4) ((rd_T55 x0 (rd x17 x19)).f5) ((rd_T55 x0 (rd x17 x19)).f6)).bind fun t256 => (if t256 = true then (impl_AnfOk.l1 k x0 x10 x11 x12 x17 x18 (wrap64 (x19 + 1)) x250000 x250001 x250002 x250003 x250004 x250005 x250006) else (some false))) else (none)) else (none)) else (impl_AnfOk.l1 k x0 x10 x11 x12 x17 x18 (wrap64 (x19 + 1)) x250000 x250001 x250002 x250003 x250004 x250005 x250006))) else (none)) else (none)) else (impl_AnfOk.l0 k x0 x10 x11 (wrap64 (x12 + 1)))
end
def impl_AnfOk.f (k : Nat) (l0 : List (S55)) : Option (Bool) := (impl_NodesOk.f k l0).bind fun t247 => (if t247 = true then (impl_AnfOk.l0 k l0 l0 (l0.length : Int) 0) else (some false))
theorem impl_AnfOk.mono_l : ∀ k, (∀ y0 y1 y2 y3, LeO (impl_AnfOk.l0 k y0 y1 y2 y3) (impl_AnfOk.l0 (k + 1) y0 y1 y2 y3)) ∧ (∀ y0 y1 y2 y3 y4 y5 y6 y7 y8 y9 y10 y11 y12 y13, LeO (impl_AnfOk.l1 k y0 y1 y2 y3 y4 y5 y6 y7 y8 y9 y10 y11 y12 y13) (impl_AnfOk.l1 (k + 1) y0 y1 y2 y3 y4 y5 y6 y7 y8 y9 y10 y11 y12 y13))
  | 0 => ⟨fun _ _ _ _ r h => by simp [impl_AnfOk.l0] at h, fun _ _ _ _ _ _ _ _ _ _ _ _ _ _ r h => by simp [impl_AnfOk.l1] at h⟩
  | k + 1 => by
    obtain ⟨ih0, ih1⟩ := impl_AnfOk.mono_l k
    refine ⟨?_, ?_⟩
    (intro y0 y1 y2 y3; unfold impl_AnfOk.l0; rotate_left)
    (intro y0 y1 y2 y3 y4 y5 y6 y7 y8 y9 y10 y11 y12 y13; unfold impl_AnfOk.l1; rotate_left)
    all_goals
      repeat' first
      | (with_reducible exact ih0 _ _ _ _)
      | (with_reducible exact ih1 _ _ _ _ _ _ _ _ _ _ _ _ _ _)
      | (with_reducible exact impl_Kids.mono _ _ _ _ _ _ _ _)
      | (with_reducible exact impl_NodesOk.mono _ _)
      | (with_reducible exact impl_aheadOf.mono _ _)
      | (with_reducible exact LeO.refl _)
      | (with_reducible exact LeO.none _)
      | (with_reducible refine LeO.ite ?_ ?_)
      | (with_reducible refine LeO.bind ?_ (fun _ => ?_))
      | exact LeO.none _
      | refine LeO.ite ?_ ?_
      | refine LeO.bind ?_ (fun _ => ?_)
theorem impl_AnfOk.mono : ∀ a0 k, LeO (impl_AnfOk.f k a0) (impl_AnfOk.f (k + 1) a0) := by
  intro a0 k
  obtain ⟨ih0, ih1⟩ := impl_AnfOk.mono_l k
  unfold impl_AnfOk.f
  repeat' first
      | (with_reducible exact ih0 _ _ _ _)
      | (with_reducible exact ih1 _ _ _ _ _ _ _ _ _ _ _ _ _ _)
      | (with_reducible exact impl_Kids.mono _ _ _ _ _ _ _ _)
      | (with_reducible exact impl_NodesOk.mono _ _)
      | (with_reducible exact impl_aheadOf.mono _ _)
      | (with_reducible exact LeO.refl _)
      | (with_reducible exact LeO.none _)
      | (with_reducible refine LeO.ite ?_ ?_)
      | (with_reducible refine LeO.bind ?_ (fun _ => ?_))
      | exact LeO.none _
      | refine LeO.ite ?_ ?_
      | refine LeO.bind ?_ (fun _ => ?_)
set_option maxHeartbeats 8000000 in
set_option maxRecDepth 100000 in
theorem impl_AnfOk.calls (k : Nat) (A0 : Option Addr) (c0 : Nat) (l0 : List (S55)) (r : Bool) (w : World) (hr0 : Kd.C k55 w A0 l0.length l0) (hc0 : l0.length ≤ c0) (h : impl_AnfOk.f k l0 = some r) :
    Calls Tryd.prog 17 #[.slice A0 l0.length c0] w fun e w' => e = .returned (.bool r) ∧ Below w.heap.size w w' := by
  have hu55 := Tryd.underlying55
  have HR0 := Ad_.mk hr0
  have HC0 := Ad_.mk hc0
  clear hr0 hc0
  have HB := Ad_.mk (Below.refl w.heap.size w)
  have H := h
  unfold impl_AnfOk.f at H
  clear h
  replace H := Option.bind_eq_some_iff.mp H
  obtain ⟨t247, A20, H⟩ := H
  try dsimp only at H
  have A2 := Ad_.mk A20
  clear A20
  by_cases c3 : t247 = true
  rotate_left
  ·
   replace c3 := Bool.eq_false_iff.mpr c3
   subst c3
   have H1 : (some false) = some r := by rw [if_neg (show ¬ (false = true) by decide)] at H; exact H
   clear H
   have H := H1
   clear H1
   obtain rfl := Option.some.inj H
   go_enter Tryd.func17, Tryd.ntmps17
   go_wp2_with (first | ((with_reducible refine gC_ (f := 48) rfl ?_); refine gM_ (some 8) rfl rfl Tryd.func48 (by kernel_rfl) rfl #[.slice A0 l0.length c0] rfl ?_; (with_reducible refine (impl_NodesOk.calls k _ _ l0 false _ ?side1 ?side2 A2.out).mono ?_); (case side1 => repeat (first | exact HR0.out | (with_reducible refine Kd.C_alloc ?_ _) | (with_reducible refine Kd.C_drewN ?_ _) | (with_reducible refine Kd.C_drew ?_))); (case side2 => exact HC0.out); rintro e w27 ⟨rfl, hb⟩; refine ⟨_, rfl, ?_⟩; have n0_ := Ad_.mk (bP_ (by repeat (with_reducible first | exact HB.out | apply bA_ | apply bN_ | apply b1_)) hb); clear HB; have HB := n0_; clear n0_; (try clear hb); (try clear hb2); (try clear hk); (try clear hi)))
   go_ret
   exact ⟨by first | rfl | (simp [errW_none, errW_some] <;> rfl) | (simp [*, errW_none, errW_some] <;> rfl), by repeat (with_reducible first | exact HB.out | apply bA_ | apply bN_ | apply b1_)⟩
  subst c3
  have H1 := H
  rw [if_pos rfl] at H1
  clear H
  have H := H1
  clear H1
  have H' := Ad_.mk H
  clear H
  go_enter Tryd.func17, Tryd.ntmps17
  go_wp2_with (first | ((with_reducible refine gC_ (f := 48) rfl ?_); refine gM_ (some 8) rfl rfl Tryd.func48 (by kernel_rfl) rfl #[.slice A0 l0.length c0] rfl ?_; (with_reducible refine (impl_NodesOk.calls k _ _ l0 true _ ?side1 ?side2 A2.out).mono ?_); (case side1 => repeat (first | exact HR0.out | (with_reducible refine Kd.C_alloc ?_ _) | (with_reducible refine Kd.C_drewN ?_ _) | (with_reducible refine Kd.C_drew ?_))); (case side2 => exact HC0.out); rintro e w4 ⟨rfl, hb⟩; refine ⟨_, rfl, ?_⟩; have n0_ := Ad_.mk (bP_ (by repeat (with_reducible first | exact HB.out | apply bA_ | apply bN_ | apply b1_)) hb); clear HB; have HB := n0_; clear n0_; (try clear hb); (try clear hb2); (try clear hk); (try clear hi)))
  go_loopg [12] k (fun kq v12 w' => ∃ (x12_1 : Int), v12 = .int .i64 x12_1 ∧ Ad_ (impl_AnfOk.l0 kq l0 l0 (l0.length : Int) x12_1 = some r) ∧ Ad_ (kq ≤ k) ∧ Ad_ (Below w.heap.size w w'))
  case atStart => exact ⟨(0), fs_, H', ⟨Nat.le_refl _⟩, ⟨by repeat (with_reducible first | exact HB.out | apply bA_ | apply bN_ | apply b1_)⟩⟩
  case round =>
    clear H'
    try clear p2
    obtain ⟨x12_1, rfl, HA, HK1, HB⟩ := hrel
    cases gk with
    | zero => exact absurd HA.out (by simp [impl_AnfOk.l0])
    | succ k1 =>
      have H := HA.out
      clear HA
      simp only [impl_AnfOk.l0] at H
      by_cases c5 : x12_1 < (l0.length : Int)
      rotate_left
      ·
       rw [if_neg c5] at H
       have c5b0 := decide_eq_false c5
       clear c5
       obtain rfl := Option.some.inj H
       go_wp2
       go_ret
       exact ⟨by first | rfl | (simp [errW_none, errW_some] <;> rfl) | (simp [*, errW_none, errW_some] <;> rfl), by repeat (with_reducible first | exact HB.out | apply bA_ | apply bN_ | apply b1_)⟩
      rw [if_pos c5] at H
      have c5b0 := decide_eq_true c5
      clear c5
      by_cases c6 : 0 ≤ x12_1
      rotate_left
      ·
       rw [if_neg c6] at H
       exact absurd H (by simp)
      rw [if_pos c6] at H
      have c6b0 := decide_eq_true c6
      clear c6
      by_cases c7 : x12_1 < (l0.length : Int)
      rotate_left
      ·
       rw [if_neg c7] at H
       exact absurd H (by simp)
      rw [if_pos c7] at H
      have c7b0 := decide_eq_true c7
      clear c7
      replace H := Option.bind_eq_some_iff.mp H
      obtain ⟨t250, A80, H⟩ := H
      try dsimp only at H
      have A8 := Ad_.mk A80
      clear A80
      have H' := Ad_.mk H
      clear H
      have p248 : 0 ≤ (x12_1 : Int) := od_
      have q248 : x12_1 < (l0.length : Int) := od_
      obtain ⟨ad248, e248, hx248_0, hx248_1, hx248_2, hx248_3, hx248_4, hx248_5, hx248_6⟩ := at_T55 HR0.out x12_1 p248 q248
      cases e248
      replace hx248_0 := pB_ HB.out hx248_0
      replace hx248_1 := pB_ HB.out hx248_1
      replace hx248_2 := pB_ HB.out hx248_2
      replace hx248_3 := pB_ HB.out hx248_3
      replace hx248_4 := pB_ HB.out hx248_4
      replace hx248_5 := pB_ HB.out hx248_5
      replace hx248_6 := pB_ HB.out hx248_6
      replace p248 := eq_true p248
      replace q248 := eq_true q248
      go_wp2_with (first | ((with_reducible refine gD_ (N := 4) rfl ?_); refine bE_ ?hg (N := 4) ?hd (cs := #[.int .i64 0, .int .i64 0, .int .i64 0, .int .i64 0, .int .i64 0, .string (⟨#[]⟩ : ByteArray), .string (⟨#[]⟩ : ByteArray)]) (t := 55) ?hr ?_; (case hd => rfl); (case hg => rfl); (case hr => first | (go_simp; done) | (go_simp; rfl)); intro gb249 hg w9 hbox hb; have n0_ := Ad_.mk (bP_ (by repeat (with_reducible first | exact HB.out | apply bA_ | apply bN_ | apply b1_)) hb); have n1_ := Ad_.mk (hbox); have n2_ := Ad_.mk ((by rw [hg]; exact (bZ_ (by repeat (with_reducible first | exact HB.out | apply bA_ | apply bN_ | apply b1_))) : w.heap.size ≤ gb249)); have n3_ := Ad_.mk ((by rw [hg]; exact (bZ_ (by repeat (with_reducible first | exact HB.out | apply bA_ | apply bN_ | apply b1_))) : w.heap.size ≤ gb249)); clear HB; have HB := n0_; have BK249 := n1_; have GW249 := n2_; have GE249 := n3_; clear n0_ n1_ n2_ n3_; clear hb hbox hg; obtain ⟨hcz10_0, hcz10_1, hcz10_2, hcz10_3, hcz10_4, hcz10_5, hcz10_6⟩ := cells7_ BK249.out; obtain ⟨hfz10_0, hfz10_1, hfz10_2, hfz10_3, hfz10_4, hfz10_5, hfz10_6⟩ := froz7_ BK249.out) | ((with_reducible refine gC_ (f := 56) rfl ?_); refine gM_ (some 17) rfl rfl Tryd.func56 (by kernel_rfl) rfl #[.agg #[.int .i64 ((rd_T55 l0 x12_1).f0), .int .i64 ((rd_T55 l0 x12_1).f1), .int .i64 ((rd_T55 l0 x12_1).f2), .int .i64 ((rd_T55 l0 x12_1).f3), .int .i64 ((rd_T55 l0 x12_1).f4), .string ((rd_T55 l0 x12_1).f5), .string ((rd_T55 l0 x12_1).f6)]] rfl ?_; (with_reducible refine (impl_Kids.calls k1 ((rd_T55 l0 x12_1).f0) ((rd_T55 l0 x12_1).f1) ((rd_T55 l0 x12_1).f2) ((rd_T55 l0 x12_1).f3) ((rd_T55 l0 x12_1).f4) ((rd_T55 l0 x12_1).f5) ((rd_T55 l0 x12_1).f6) t250 _ A8.out).mono ?_); rintro e w11 ⟨v251, rfl, ho0, hb⟩; refine ⟨_, rfl, ?_⟩; have n0_ := Ad_.mk (Kd.V_lower (Kd.V_mono (ok' := fun k_ => k_ ≠ gb249) ho0 (fun k_ hk_ => (Kd.freshB (g := gb249) (o := .cells #[.int .i64 ((rd_T55 l0 x12_1).f0), .int .i64 ((rd_T55 l0 x12_1).f1), .int .i64 ((rd_T55 l0 x12_1).f2), .int .i64 ((rd_T55 l0 x12_1).f3), .int .i64 ((rd_T55 l0 x12_1).f4), .string ((rd_T55 l0 x12_1).f5), .string ((rd_T55 l0 x12_1).f6)] 55 (0, 0)) (by (with_reducible repeat (first | refine kN_ ?_ _ | refine k1_ ?_ | refine kA_ ?_ _)); refine blk_put (cs := #[.int .i64 ((rd_T55 l0 x12_1).f0), .int .i64 ((rd_T55 l0 x12_1).f1), .int .i64 ((rd_T55 l0 x12_1).f2), .int .i64 ((rd_T55 l0 x12_1).f3), .int .i64 ((rd_T55 l0 x12_1).f4), .string ((rd_T55 l0 x12_1).f5), .string (⟨#[]⟩ : ByteArray)]) ?_ 6 _ rfl; (with_reducible repeat (first | refine kN_ ?_ _ | refine k1_ ?_ | refine kA_ ?_ _)); refine blk_put (cs := #[.int .i64 ((rd_T55 l0 x12_1).f0), .int .i64 ((rd_T55 l0 x12_1).f1), .int .i64 ((rd_T55 l0 x12_1).f2), .int .i64 ((rd_T55 l0 x12_1).f3), .int .i64 ((rd_T55 l0 x12_1).f4), .string (⟨#[]⟩ : ByteArray), .string (⟨#[]⟩ : ByteArray)]) ?_ 5 _ rfl; (with_reducible repeat (first | refine kN_ ?_ _ | refine k1_ ?_ | refine kA_ ?_ _)); refine blk_put (cs := #[.int .i64 ((rd_T55 l0 x12_1).f0), .int .i64 ((rd_T55 l0 x12_1).f1), .int .i64 ((rd_T55 l0 x12_1).f2), .int .i64 ((rd_T55 l0 x12_1).f3), .int .i64 0, .string (⟨#[]⟩ : ByteArray), .string (⟨#[]⟩ : ByteArray)]) ?_ 4 _ rfl; (with_reducible repeat (first | refine kN_ ?_ _ | refine k1_ ?_ | refine kA_ ?_ _)); refine blk_put (cs := #[.int .i64 ((rd_T55 l0 x12_1).f0), .int .i64 ((rd_T55 l0 x12_1).f1), .int .i64 ((rd_T55 l0 x12_1).f2), .int .i64 0, .int .i64 0, .string (⟨#[]⟩ : ByteArray), .string (⟨#[]⟩ : ByteArray)]) ?_ 3 _ rfl; (with_reducible repeat (first | refine kN_ ?_ _ | refine k1_ ?_ | refine kA_ ?_ _)); refine blk_put (cs := #[.int .i64 ((rd_T55 l0 x12_1).f0), .int .i64 ((rd_T55 l0 x12_1).f1), .int .i64 0, .int .i64 0, .int .i64 0, .string (⟨#[]⟩ : ByteArray), .string (⟨#[]⟩ : ByteArray)]) ?_ 2 _ rfl; (with_reducible repeat (first | refine kN_ ?_ _ | refine k1_ ?_ | refine kA_ ?_ _)); refine blk_put (cs := #[.int .i64 ((rd_T55 l0 x12_1).f0), .int .i64 0, .int .i64 0, .int .i64 0, .int .i64 0, .string (⟨#[]⟩ : ByteArray), .string (⟨#[]⟩ : ByteArray)]) ?_ 1 _ rfl; (with_reducible repeat (first | refine kN_ ?_ _ | refine k1_ ?_ | refine kA_ ?_ _)); refine blk_put (cs := #[.int .i64 0, .int .i64 0, .int .i64 0, .int .i64 0, .int .i64 0, .string (⟨#[]⟩ : ByteArray), .string (⟨#[]⟩ : ByteArray)]) ?_ 0 _ rfl; (with_reducible repeat (first | refine kN_ ?_ _ | refine k1_ ?_ | refine kA_ ?_ _)); exact BK249.out) k_ hk_))) (bZ_ (by repeat (with_reducible first | exact HB.out | apply bA_ | apply bN_ | apply b1_ | refine bS_ ?_ GE249.out)))); have n1_ := Ad_.mk (blk_below (g := gb249) (o := .cells #[.int .i64 ((rd_T55 l0 x12_1).f0), .int .i64 ((rd_T55 l0 x12_1).f1), .int .i64 ((rd_T55 l0 x12_1).f2), .int .i64 ((rd_T55 l0 x12_1).f3), .int .i64 ((rd_T55 l0 x12_1).f4), .string ((rd_T55 l0 x12_1).f5), .string ((rd_T55 l0 x12_1).f6)] 55 (0, 0)) (by (with_reducible repeat (first | refine kN_ ?_ _ | refine k1_ ?_ | refine kA_ ?_ _)); refine blk_put (cs := #[.int .i64 ((rd_T55 l0 x12_1).f0), .int .i64 ((rd_T55 l0 x12_1).f1), .int .i64 ((rd_T55 l0 x12_1).f2), .int .i64 ((rd_T55 l0 x12_1).f3), .int .i64 ((rd_T55 l0 x12_1).f4), .string ((rd_T55 l0 x12_1).f5), .string (⟨#[]⟩ : ByteArray)]) ?_ 6 _ rfl; (with_reducible repeat (first | refine kN_ ?_ _ | refine k1_ ?_ | refine kA_ ?_ _)); refine blk_put (cs := #[.int .i64 ((rd_T55 l0 x12_1).f0), .int .i64 ((rd_T55 l0 x12_1).f1), .int .i64 ((rd_T55 l0 x12_1).f2), .int .i64 ((rd_T55 l0 x12_1).f3), .int .i64 ((rd_T55 l0 x12_1).f4), .string (⟨#[]⟩ : ByteArray), .string (⟨#[]⟩ : ByteArray)]) ?_ 5 _ rfl; (with_reducible repeat (first | refine kN_ ?_ _ | refine k1_ ?_ | refine kA_ ?_ _)); refine blk_put (cs := #[.int .i64 ((rd_T55 l0 x12_1).f0), .int .i64 ((rd_T55 l0 x12_1).f1), .int .i64 ((rd_T55 l0 x12_1).f2), .int .i64 ((rd_T55 l0 x12_1).f3), .int .i64 0, .string (⟨#[]⟩ : ByteArray), .string (⟨#[]⟩ : ByteArray)]) ?_ 4 _ rfl; (with_reducible repeat (first | refine kN_ ?_ _ | refine k1_ ?_ | refine kA_ ?_ _)); refine blk_put (cs := #[.int .i64 ((rd_T55 l0 x12_1).f0), .int .i64 ((rd_T55 l0 x12_1).f1), .int .i64 ((rd_T55 l0 x12_1).f2), .int .i64 0, .int .i64 0, .string (⟨#[]⟩ : ByteArray), .string (⟨#[]⟩ : ByteArray)]) ?_ 3 _ rfl; (with_reducible repeat (first | refine kN_ ?_ _ | refine k1_ ?_ | refine kA_ ?_ _)); refine blk_put (cs := #[.int .i64 ((rd_T55 l0 x12_1).f0), .int .i64 ((rd_T55 l0 x12_1).f1), .int .i64 0, .int .i64 0, .int .i64 0, .string (⟨#[]⟩ : ByteArray), .string (⟨#[]⟩ : ByteArray)]) ?_ 2 _ rfl; (with_reducible repeat (first | refine kN_ ?_ _ | refine k1_ ?_ | refine kA_ ?_ _)); refine blk_put (cs := #[.int .i64 ((rd_T55 l0 x12_1).f0), .int .i64 0, .int .i64 0, .int .i64 0, .int .i64 0, .string (⟨#[]⟩ : ByteArray), .string (⟨#[]⟩ : ByteArray)]) ?_ 1 _ rfl; (with_reducible repeat (first | refine kN_ ?_ _ | refine k1_ ?_ | refine kA_ ?_ _)); refine blk_put (cs := #[.int .i64 0, .int .i64 0, .int .i64 0, .int .i64 0, .int .i64 0, .string (⟨#[]⟩ : ByteArray), .string (⟨#[]⟩ : ByteArray)]) ?_ 0 _ rfl; (with_reducible repeat (first | refine kN_ ?_ _ | refine k1_ ?_ | refine kA_ ?_ _)); exact BK249.out) hb); have n2_ := Ad_.mk (bP_ (by repeat (with_reducible first | exact HB.out | apply bA_ | apply bN_ | apply b1_ | refine bS_ ?_ GE249.out)) hb); clear BK249; clear HB; have HO252 := n0_; have BK249 := n1_; have HB := n2_; clear n0_ n1_ n2_; (try clear hb); (try clear hb2); (try clear hk); (try clear hi); (try clear ho0); obtain ⟨Ao12, co12, eo12⟩ := Kd.V_slice HO252.out; subst eo12))
      go_loopg [19] k1 (fun kq v19 w' => ∃ (x19_2 : Int), v19 = .int .i64 x19_2 ∧ Ad_ (impl_AnfOk.l1 kq l0 l0 (l0.length : Int) x12_1 t250 (t250.length : Int) x19_2 ((rd_T55 l0 x12_1).f0) ((rd_T55 l0 x12_1).f1) ((rd_T55 l0 x12_1).f2) ((rd_T55 l0 x12_1).f3) ((rd_T55 l0 x12_1).f4) ((rd_T55 l0 x12_1).f5) ((rd_T55 l0 x12_1).f6) = some r) ∧ Ad_ (kq ≤ k1) ∧ Ad_ (Kd.V (Kd.int .i64) 3 w' w.heap.size (fun k_ => k_ ≠ gb249) (.slice Ao12 t250.length co12) t250) ∧ Ad_ (w'.heap[gb249]? = some (.cells #[.int .i64 ((rd_T55 l0 x12_1).f0), .int .i64 ((rd_T55 l0 x12_1).f1), .int .i64 ((rd_T55 l0 x12_1).f2), .int .i64 ((rd_T55 l0 x12_1).f3), .int .i64 ((rd_T55 l0 x12_1).f4), .string ((rd_T55 l0 x12_1).f5), .string ((rd_T55 l0 x12_1).f6)] 55 (0, 0))) ∧ Ad_ (Below w.heap.size w w'))
      case atStart => exact ⟨(0), fs_, H', ⟨Nat.le_refl _⟩, ⟨by (with_reducible repeat (first | apply Kd.V_alloc | apply Kd.V_drewN | apply Kd.V_drew)); exact HO252.out⟩, ⟨by (with_reducible repeat (first | refine kN_ ?_ _ | refine k1_ ?_ | refine kA_ ?_ _)); exact BK249.out⟩, ⟨by repeat (with_reducible first | exact HB.out | apply bA_ | apply bN_ | apply b1_ | refine bS_ ?_ GE249.out)⟩⟩
      case round =>
        clear H'
        try clear p2
        try clear q2
        try clear hx2
        try clear c5b0
        try clear c6b0
        try clear c7b0
        try clear hcz10_0 hcz10_1 hcz10_2 hcz10_3 hcz10_4 hcz10_5 hcz10_6
        try clear hfz10_0 hfz10_1 hfz10_2 hfz10_3 hfz10_4 hfz10_5 hfz10_6
        try clear hx248_0
        try clear hx248_1
        try clear hx248_2
        try clear hx248_3
        try clear hx248_4
        try clear hx248_5
        try clear hx248_6
        try clear p2
        try clear p248
        try clear q248
        obtain ⟨x19_2, rfl, HA, HK2, HO_17, BK249, HB⟩ := hrel
        cases gk with
        | zero => exact absurd HA.out (by simp [impl_AnfOk.l1])
        | succ k2 =>
          have H := HA.out
          clear HA
          simp only [impl_AnfOk.l1] at H
          by_cases c13 : x19_2 < (t250.length : Int)
          rotate_left
          ·
           rw [if_neg c13] at H
           have c13b0 := decide_eq_false c13
           clear c13
           have H' := Ad_.mk H
           clear H
           go_wp2
           go_roundg k2
           case measure => have := HK1.out; have := HK2.out; omega
           case rel => exact ⟨(wrap64 (x12_1 + 1)), fs_, H', ⟨by have := HK1.out; have := HK2.out; omega⟩, ⟨by repeat (with_reducible first | exact HB.out | apply bA_ | apply bN_ | apply b1_ | refine bS_ ?_ GE249.out)⟩⟩
          rw [if_pos c13] at H
          have c13b0 := decide_eq_true c13
          clear c13
          by_cases c14 : 0 ≤ x19_2
          rotate_left
          ·
           rw [if_neg c14] at H
           exact absurd H (by simp)
          rw [if_pos c14] at H
          have c14b0 := decide_eq_true c14
          clear c14
          by_cases c15 : x19_2 < (t250.length : Int)
          rotate_left
          ·
           rw [if_neg c15] at H
           exact absurd H (by simp)
          rw [if_pos c15] at H
          have c15b0 := decide_eq_true c15
          clear c15
          replace H := Option.bind_eq_some_iff.mp H
          obtain ⟨t254, A160, H⟩ := H
          try dsimp only at H
          have A16 := Ad_.mk A160
          clear A160
          by_cases c17 : x19_2 < t254
          rotate_left
          ·
           rw [if_neg c17] at H
           have c17b0 := decide_eq_false c17
           clear c17
           have H' := Ad_.mk H
           clear H
           have p253 : 0 ≤ (x19_2 : Int) := od_
           have q253 : x19_2 < (t250.length : Int) := od_
           obtain ⟨ad253, e253, hx253_0⟩ := Kd.at_int (Kd.V_reads' HO_17.out).2.2 x19_2 p253 q253
           cases e253
           replace p253 := eq_true p253
           replace q253 := eq_true q253
           obtain ⟨hcz26_0, hcz26_1, hcz26_2, hcz26_3, hcz26_4, hcz26_5, hcz26_6⟩ := cells7_ BK249.out
           obtain ⟨hfz26_0, hfz26_1, hfz26_2, hfz26_3, hfz26_4, hfz26_5, hfz26_6⟩ := froz7_ BK249.out
           go_wp2_with (first | ((with_reducible refine gC_ (f := 65) rfl ?_); refine gM_ (some 27) rfl rfl Tryd.func65 (by kernel_rfl) rfl #[.int .i64 ((rd_T55 l0 x12_1).f0)] rfl ?_; (with_reducible refine (impl_aheadOf.calls k2 ((rd_T55 l0 x12_1).f0) t254 _ A16.out).mono ?_); rintro e w' ⟨rfl, ⟨nd, rfl⟩⟩; refine ⟨_, rfl, ?_⟩))
           go_roundg k2
           case measure => have := HK1.out; have := HK2.out; omega
           case rel => exact ⟨(wrap64 (x19_2 + 1)), fs_, H', ⟨by have := HK1.out; have := HK2.out; omega⟩, ⟨by (with_reducible repeat (first | apply Kd.V_alloc | apply Kd.V_drewN | apply Kd.V_drew)); exact HO_17.out⟩, ⟨by (with_reducible repeat (first | refine kN_ ?_ _ | refine k1_ ?_ | refine kA_ ?_ _)); exact BK249.out⟩, ⟨by repeat (with_reducible first | exact HB.out | apply bA_ | apply bN_ | apply b1_ | refine bS_ ?_ GE249.out)⟩⟩
          rw [if_pos c17] at H
          have c17b0 := decide_eq_true c17
          clear c17
          by_cases c18 : 0 ≤ (rd t250 x19_2)
          rotate_left
          ·
           rw [if_neg c18] at H
           exact absurd H (by simp)
          rw [if_pos c18] at H
          have c18b0 := decide_eq_true c18
          clear c18
          by_cases c19 : (rd t250 x19_2) < (l0.length : Int)
          rotate_left
          ·
           rw [if_neg c19] at H
           exact absurd H (by simp)
          rw [if_pos c19] at H
          have c19b0 := decide_eq_true c19
          clear c19
          replace H := Option.bind_eq_some_iff.mp H
          obtain ⟨t256, A200, H⟩ := H
          try dsimp only at H
          have A20 := Ad_.mk A200
          clear A200
          by_cases c21 : t256 = true
          rotate_left
          ·
           replace c21 := Bool.eq_false_iff.mpr c21
           subst c21
           have H1 : (some false) = some r := by rw [if_neg (show ¬ (false = true) by decide)] at H; exact H
           clear H
           have H := H1
           clear H1
           obtain rfl := Option.some.inj H
           have p253 : 0 ≤ (x19_2 : Int) := od_
           have q253 : x19_2 < (t250.length : Int) := od_
           obtain ⟨ad253, e253, hx253_0⟩ := Kd.at_int (Kd.V_reads' HO_17.out).2.2 x19_2 p253 q253
           cases e253
           replace p253 := eq_true p253
           replace q253 := eq_true q253
           obtain ⟨hcz24_0, hcz24_1, hcz24_2, hcz24_3, hcz24_4, hcz24_5, hcz24_6⟩ := cells7_ BK249.out
           obtain ⟨hfz24_0, hfz24_1, hfz24_2, hfz24_3, hfz24_4, hfz24_5, hfz24_6⟩ := froz7_ BK249.out
           go_wp2_with (first | ((with_reducible refine gC_ (f := 65) rfl ?_); refine gM_ (some 27) rfl rfl Tryd.func65 (by kernel_rfl) rfl #[.int .i64 ((rd_T55 l0 x12_1).f0)] rfl ?_; (with_reducible refine (impl_aheadOf.calls k2 ((rd_T55 l0 x12_1).f0) t254 _ A16.out).mono ?_); rintro e w' ⟨rfl, ⟨nd, rfl⟩⟩; refine ⟨_, rfl, ?_⟩; have p255 : 0 ≤ ((rd t250 x19_2) : Int) := od_; have q255 : (rd t250 x19_2) < (l0.length : Int) := od_; obtain ⟨ad255, e255, hx255_0, hx255_1, hx255_2, hx255_3, hx255_4, hx255_5, hx255_6⟩ := at_T55 HR0.out (rd t250 x19_2) p255 q255; obtain rfl : ad248 = ad255 := (by injection e255); replace hx255_0 := pB_ HB.out hx255_0; replace hx255_1 := pB_ HB.out hx255_1; replace hx255_2 := pB_ HB.out hx255_2; replace hx255_3 := pB_ HB.out hx255_3; replace hx255_4 := pB_ HB.out hx255_4; replace hx255_5 := pB_ HB.out hx255_5; replace hx255_6 := pB_ HB.out hx255_6; replace p255 := eq_true p255; replace q255 := eq_true q255) | (go_at_call 66; (with_reducible refine (impl_IsAtom.calls ((rd_T55 l0 (rd t250 x19_2)).f0) ((rd_T55 l0 (rd t250 x19_2)).f1) ((rd_T55 l0 (rd t250 x19_2)).f2) ((rd_T55 l0 (rd t250 x19_2)).f3) ((rd_T55 l0 (rd t250 x19_2)).f4) ((rd_T55 l0 (rd t250 x19_2)).f5) ((rd_T55 l0 (rd t250 x19_2)).f6) false _ A20.out).mono ?_); rintro e w25 ⟨rfl, hb⟩; have n0_ := Ad_.mk (Kd.V_below (by (with_reducible repeat (first | apply Kd.V_alloc | apply Kd.V_drewN | apply Kd.V_drew)); exact HO_17.out) hb); have n1_ := Ad_.mk (blk_below (g := gb249) (o := .cells #[.int .i64 ((rd_T55 l0 x12_1).f0), .int .i64 ((rd_T55 l0 x12_1).f1), .int .i64 ((rd_T55 l0 x12_1).f2), .int .i64 ((rd_T55 l0 x12_1).f3), .int .i64 ((rd_T55 l0 x12_1).f4), .string ((rd_T55 l0 x12_1).f5), .string ((rd_T55 l0 x12_1).f6)] 55 (0, 0)) (by (with_reducible repeat (first | refine kN_ ?_ _ | refine k1_ ?_ | refine kA_ ?_ _)); exact BK249.out) hb); have n2_ := Ad_.mk (bP_ (by repeat (with_reducible first | exact HB.out | apply bA_ | apply bN_ | apply b1_ | refine bS_ ?_ GE249.out)) hb); clear HO_17; clear BK249; clear HB; have HO_17 := n0_; have BK249 := n1_; have HB := n2_; clear n0_ n1_ n2_; (try clear hb); (try clear hb2); (try clear hk); (try clear hi)))
           go_ret
           exact ⟨by first | rfl | (simp [errW_none, errW_some] <;> rfl) | (simp [*, errW_none, errW_some] <;> rfl), by repeat (with_reducible first | exact HB.out | apply bA_ | apply bN_ | apply b1_ | refine bS_ ?_ GE249.out)⟩
          subst c21
          have H1 := H
          rw [if_pos rfl] at H1
          clear H
          have H := H1
          clear H1
          have H' := Ad_.mk H
          clear H
          have p253 : 0 ≤ (x19_2 : Int) := od_
          have q253 : x19_2 < (t250.length : Int) := od_
          obtain ⟨ad253, e253, hx253_0⟩ := Kd.at_int (Kd.V_reads' HO_17.out).2.2 x19_2 p253 q253
          cases e253
          replace p253 := eq_true p253
          replace q253 := eq_true q253
          obtain ⟨hcz22_0, hcz22_1, hcz22_2, hcz22_3, hcz22_4, hcz22_5, hcz22_6⟩ := cells7_ BK249.out
          obtain ⟨hfz22_0, hfz22_1, hfz22_2, hfz22_3, hfz22_4, hfz22_5, hfz22_6⟩ := froz7_ BK249.out
          go_wp2_with (first | ((with_reducible refine gC_ (f := 65) rfl ?_); refine gM_ (some 27) rfl rfl Tryd.func65 (by kernel_rfl) rfl #[.int .i64 ((rd_T55 l0 x12_1).f0)] rfl ?_; (with_reducible refine (impl_aheadOf.calls k2 ((rd_T55 l0 x12_1).f0) t254 _ A16.out).mono ?_); rintro e w' ⟨rfl, ⟨nd, rfl⟩⟩; refine ⟨_, rfl, ?_⟩; have p255 : 0 ≤ ((rd t250 x19_2) : Int) := od_; have q255 : (rd t250 x19_2) < (l0.length : Int) := od_; obtain ⟨ad255, e255, hx255_0, hx255_1, hx255_2, hx255_3, hx255_4, hx255_5, hx255_6⟩ := at_T55 HR0.out (rd t250 x19_2) p255 q255; obtain rfl : ad248 = ad255 := (by injection e255); replace hx255_0 := pB_ HB.out hx255_0; replace hx255_1 := pB_ HB.out hx255_1; replace hx255_2 := pB_ HB.out hx255_2; replace hx255_3 := pB_ HB.out hx255_3; replace hx255_4 := pB_ HB.out hx255_4; replace hx255_5 := pB_ HB.out hx255_5; replace hx255_6 := pB_ HB.out hx255_6; replace p255 := eq_true p255; replace q255 := eq_true q255) | (go_at_call 66; (with_reducible refine (impl_IsAtom.calls ((rd_T55 l0 (rd t250 x19_2)).f0) ((rd_T55 l0 (rd t250 x19_2)).f1) ((rd_T55 l0 (rd t250 x19_2)).f2) ((rd_T55 l0 (rd t250 x19_2)).f3) ((rd_T55 l0 (rd t250 x19_2)).f4) ((rd_T55 l0 (rd t250 x19_2)).f5) ((rd_T55 l0 (rd t250 x19_2)).f6) true _ A20.out).mono ?_); rintro e w23 ⟨rfl, hb⟩; have n0_ := Ad_.mk (Kd.V_below (by (with_reducible repeat (first | apply Kd.V_alloc | apply Kd.V_drewN | apply Kd.V_drew)); exact HO_17.out) hb); have n1_ := Ad_.mk (blk_below (g := gb249) (o := .cells #[.int .i64 ((rd_T55 l0 x12_1).f0), .int .i64 ((rd_T55 l0 x12_1).f1), .int .i64 ((rd_T55 l0 x12_1).f2), .int .i64 ((rd_T55 l0 x12_1).f3), .int .i64 ((rd_T55 l0 x12_1).f4), .string ((rd_T55 l0 x12_1).f5), .string ((rd_T55 l0 x12_1).f6)] 55 (0, 0)) (by (with_reducible repeat (first | refine kN_ ?_ _ | refine k1_ ?_ | refine kA_ ?_ _)); exact BK249.out) hb); have n2_ := Ad_.mk (bP_ (by repeat (with_reducible first | exact HB.out | apply bA_ | apply bN_ | apply b1_ | refine bS_ ?_ GE249.out)) hb); clear HO_17; clear BK249; clear HB; have HO_17 := n0_; have BK249 := n1_; have HB := n2_; clear n0_ n1_ n2_; (try clear hb); (try clear hb2); (try clear hk); (try clear hi)))
          go_roundg k2
          case measure => have := HK1.out; have := HK2.out; omega
          case rel => exact ⟨(wrap64 (x19_2 + 1)), fs_, H', ⟨by have := HK1.out; have := HK2.out; omega⟩, ⟨by (with_reducible repeat (first | apply Kd.V_alloc | apply Kd.V_drewN | apply Kd.V_drew)); exact HO_17.out⟩, ⟨by (with_reducible repeat (first | refine kN_ ?_ _ | refine k1_ ?_ | refine kA_ ?_ _)); exact BK249.out⟩, ⟨by repeat (with_reducible first | exact HB.out | apply bA_ | apply bN_ | apply b1_ | refine bS_ ?_ GE249.out)⟩⟩
end Go.Proofs.YtfmlamheflbgdaaDoor.PAll
end
section
namespace Go.Proofs.YtfmlamheflbgdaaDoor.PAll
open Go.RowKit Go.Proofs.YtfmlamheflbgdaaDoorW.PrintWords Go.Proofs.YtfmlamheflbgdaaDoorW.PrintLast Go.Proofs.YtfmlamheflbgdaaDoorW.PrintMore
attribute [local go_sem] max2_int min2_int max_two min_two max_three min_three max_four min_four
set_option linter.unusedVariables false
set_option linter.unusedSimpArgs false
def laws_FnExactAnfOk.f (k : Nat) (l0 : List (S62)) : Option (Bool) := (laws_szNodeS.f k l0 1048576).bind fun t262 => (if t262 < 0 then (some true) else ((laws_toNodeS.f k l0).bind fun t263 => ((spec_AnfOk.f k t263).bind fun t266 => ((laws_toNodeS.f k l0).bind fun t267 => ((impl_AnfOk.f k t267).bind fun t270 => (if (t270 != t266) = true then (some false) else ((laws_toNodeS.f k l0).bind fun t271 => ((laws_eqNodeS.f k t267 t271).bind fun t274 => (if t274 = true then (some true) else (some false))))))))))
theorem laws_FnExactAnfOk.mono : ∀ a0 k, LeO (laws_FnExactAnfOk.f k a0) (laws_FnExactAnfOk.f (k + 1) a0) := by
  intro a0 k
  unfold laws_FnExactAnfOk.f
  repeat' first
      | (with_reducible exact impl_AnfOk.mono _ _)
      | (with_reducible exact laws_eqNodeS.mono _ _ _)
      | (with_reducible exact laws_szNodeS.mono _ _ _)
      | (with_reducible exact laws_toNodeS.mono _ _)
      | (with_reducible exact spec_AnfOk.mono _ _)
      | (with_reducible exact LeO.refl _)
      | (with_reducible exact LeO.none _)
      | (with_reducible refine LeO.ite ?_ ?_)
      | (with_reducible refine LeO.bind ?_ (fun _ => ?_))
      | exact LeO.none _
      | refine LeO.ite ?_ ?_
      | refine LeO.bind ?_ (fun _ => ?_)
set_option maxHeartbeats 8000000 in
set_option maxRecDepth 100000 in
theorem laws_FnExactAnfOk.calls (k : Nat) (A0 : Option Addr) (c0 : Nat) (l0 : List (S62)) (r : Bool) (w : World) (hr0 : Kd.C k62 w A0 l0.length l0) (hc0 : l0.length ≤ c0) (h : laws_FnExactAnfOk.f k l0 = some r) :
    Calls Tryd.prog 3 #[.slice A0 l0.length c0] w fun e w' => e = .returned (.bool r) ∧ Below w.heap.size w w' := by
  have HR0 := Ad_.mk hr0
  have HC0 := Ad_.mk hc0
  clear hr0 hc0
  have HB := Ad_.mk (Below.refl w.heap.size w)
  have H := h
  unfold laws_FnExactAnfOk.f at H
  clear h
  replace H := Option.bind_eq_some_iff.mp H
  obtain ⟨t262, A20, H⟩ := H
  try dsimp only at H
  have A2 := Ad_.mk A20
  clear A20
  by_cases c3 : t262 < 0
  ·
   rw [if_pos c3] at H
   have c3b0 := decide_eq_true c3
   clear c3
   obtain rfl := Option.some.inj H
   go_enter Tryd.func3, Tryd.ntmps3
   go_wp2_with (first | ((with_reducible refine gC_ (f := 14) rfl ?_); refine gM_ (some 9) rfl rfl Tryd.func14 (by kernel_rfl) rfl #[.slice A0 l0.length c0, .int .i64 1048576] rfl ?_; (with_reducible refine (laws_szNodeS.calls k _ _ l0 1048576 t262 _ ?side1 ?side2 A2.out).mono ?_); (case side1 => repeat (first | exact HR0.out | (with_reducible refine Kd.C_alloc ?_ _) | (with_reducible refine Kd.C_drewN ?_ _) | (with_reducible refine Kd.C_drew ?_))); (case side2 => exact HC0.out); rintro e w4 ⟨rfl, hb⟩; refine ⟨_, rfl, ?_⟩; have n0_ := Ad_.mk (bP_ (by repeat (with_reducible first | exact HB.out | apply bA_ | apply bN_ | apply b1_)) hb); clear HB; have HB := n0_; clear n0_; (try clear hb); (try clear hb2); (try clear hk); (try clear hi)))
   go_ret
   exact ⟨by first | rfl | (simp [errW_none, errW_some] <;> rfl) | (simp [*, errW_none, errW_some] <;> rfl), by repeat (with_reducible first | exact HB.out | apply bA_ | apply bN_ | apply b1_)⟩
  rw [if_neg c3] at H
  have c3b0 := decide_eq_false c3
  clear c3
  replace H := Option.bind_eq_some_iff.mp H
  obtain ⟨t263, A50, H⟩ := H
  try dsimp only at H
  have A5 := Ad_.mk A50
  clear A50
  replace H := Option.bind_eq_some_iff.mp H
  obtain ⟨t266, A60, H⟩ := H
  try dsimp only at H
  have A6 := Ad_.mk A60
  clear A60
  replace H := Option.bind_eq_some_iff.mp H
  obtain ⟨t267, A70, H⟩ := H
  try dsimp only at H
  have A7 := Ad_.mk A70
  clear A70
  replace H := Option.bind_eq_some_iff.mp H
  obtain ⟨t270, A80, H⟩ := H
  try dsimp only at H
  have A8 := Ad_.mk A80
  clear A80
  by_cases c9 : (t270 != t266) = true
  ·
   rw [if_pos c9] at H
   have c9b0 : (t270 != t266) = true := c9
   (try (have c9b1 : decide (t270 = t266) = false := by simpa using c9))
   (try (have c9b2 : (t270 == t266) = false := by simpa using c9))
   (try (have c9b3 : ¬ (t270 = t266) := by simpa using c9))
   clear c9
   obtain rfl := Option.some.inj H
   go_enter Tryd.func3, Tryd.ntmps3
   go_wp2_with (first | ((with_reducible refine gC_ (f := 14) rfl ?_); refine gM_ (some 9) rfl rfl Tryd.func14 (by kernel_rfl) rfl #[.slice A0 l0.length c0, .int .i64 1048576] rfl ?_; (with_reducible refine (laws_szNodeS.calls k _ _ l0 1048576 t262 _ ?side1 ?side2 A2.out).mono ?_); (case side1 => repeat (first | exact HR0.out | (with_reducible refine Kd.C_alloc ?_ _) | (with_reducible refine Kd.C_drewN ?_ _) | (with_reducible refine Kd.C_drew ?_))); (case side2 => exact HC0.out); rintro e w10 ⟨rfl, hb⟩; refine ⟨_, rfl, ?_⟩; have n0_ := Ad_.mk (bP_ (by repeat (with_reducible first | exact HB.out | apply bA_ | apply bN_ | apply b1_)) hb); clear HB; have HB := n0_; clear n0_; (try clear hb); (try clear hb2); (try clear hk); (try clear hi)) | ((with_reducible refine gC_ (f := 16) rfl ?_); refine gM_ (some 13) rfl rfl Tryd.func16 (by kernel_rfl) rfl #[.slice A0 l0.length c0] rfl ?_; (with_reducible refine (laws_toNodeS.calls k _ _ l0 t263 _ ?side1 ?side2 A5.out).mono ?_); (case side1 => repeat (first | exact (Kd.C_below HR0.out HB.out) | (with_reducible refine Kd.C_alloc ?_ _) | (with_reducible refine Kd.C_drewN ?_ _) | (with_reducible refine Kd.C_drew ?_))); (case side2 => exact HC0.out); rintro e w11 ⟨v264, rfl, ho0, hb⟩; refine ⟨_, rfl, ?_⟩; have n0_ := Ad_.mk (Kd.R_lower ho0 (bZ_ (by repeat (with_reducible first | exact HB.out | apply bA_ | apply bN_ | apply b1_)))); have n1_ := Ad_.mk (bP_ (by repeat (with_reducible first | exact HB.out | apply bA_ | apply bN_ | apply b1_)) hb); clear HB; have HO265 := n0_; have HB := n1_; clear n0_ n1_; (try clear hb); (try clear hb2); (try clear hk); (try clear hi); (try clear ho0); obtain ⟨Ao12, co12, eo12⟩ := Kd.R_slice HO265.out; subst eo12) | ((with_reducible refine gC_ (f := 15) rfl ?_); refine gM_ (some 14) rfl rfl Tryd.func15 (by kernel_rfl) rfl #[.slice Ao12 t263.length co12] rfl ?_; (with_reducible refine (spec_AnfOk.calls k _ _ t263 t266 _ ?side1 ?side2 A6.out).mono ?_); (case side1 => repeat (first | exact (Kd.R_reads' HO265.out).2.2 | (with_reducible refine Kd.C_alloc ?_ _) | (with_reducible refine Kd.C_drewN ?_ _) | (with_reducible refine Kd.C_drew ?_))); (case side2 => exact (Kd.R_reads' HO265.out).2.1); rintro e w13 ⟨rfl, hb⟩; refine ⟨_, rfl, ?_⟩; have n0_ := Ad_.mk (Kd.R_below (by (with_reducible repeat (first | apply Kd.R_alloc | apply Kd.R_drewN | apply Kd.R_drew)); exact HO265.out) hb); have n1_ := Ad_.mk (bP_ (by repeat (with_reducible first | exact HB.out | apply bA_ | apply bN_ | apply b1_)) hb); clear HO265; clear HB; have HO265 := n0_; have HB := n1_; clear n0_ n1_; (try clear hb); (try clear hb2); (try clear hk); (try clear hi)) | ((with_reducible refine gC_ (f := 16) rfl ?_); refine gM_ (some 16) rfl rfl Tryd.func16 (by kernel_rfl) rfl #[.slice A0 l0.length c0] rfl ?_; (with_reducible refine (laws_toNodeS.calls k _ _ l0 t267 _ ?side1 ?side2 A7.out).mono ?_); (case side1 => repeat (first | exact (Kd.C_below HR0.out HB.out) | (with_reducible refine Kd.C_alloc ?_ _) | (with_reducible refine Kd.C_drewN ?_ _) | (with_reducible refine Kd.C_drew ?_))); (case side2 => exact HC0.out); rintro e w14 ⟨v268, rfl, ho0, hb⟩; refine ⟨_, rfl, ?_⟩; have n0_ := Ad_.mk (Kd.R_elder' (by (with_reducible repeat (first | apply Kd.R_alloc | apply Kd.R_drewN | apply Kd.R_drew)); exact HO265.out) (Kd.R_base ho0) hb); have n1_ := Ad_.mk (Kd.R_lower (Kd.R_new' ho0 (Kd.R_lt (by (with_reducible repeat (first | apply Kd.R_alloc | apply Kd.R_drewN | apply Kd.R_drew)); exact HO265.out))) (bZ_ (by repeat (with_reducible first | exact HB.out | apply bA_ | apply bN_ | apply b1_)))); have n2_ := Ad_.mk (bP_ (by repeat (with_reducible first | exact HB.out | apply bA_ | apply bN_ | apply b1_)) hb); clear HO265; clear HB; have HO265 := n0_; have HO269 := n1_; have HB := n2_; clear n0_ n1_ n2_; (try clear hb); (try clear hb2); (try clear hk); (try clear hi); (try clear ho0); obtain ⟨Ao15, co15, eo15⟩ := Kd.R_slice HO269.out; subst eo15) | ((with_reducible refine gC_ (f := 17) rfl ?_); refine gM_ (some 18) rfl rfl Tryd.func17 (by kernel_rfl) rfl #[.slice Ao15 t267.length co15] rfl ?_; (with_reducible refine (impl_AnfOk.calls k _ _ t267 t270 _ ?side1 ?side2 A8.out).mono ?_); (case side1 => repeat (first | exact (Kd.R_reads' HO269.out).2.2 | (with_reducible refine Kd.C_alloc ?_ _) | (with_reducible refine Kd.C_drewN ?_ _) | (with_reducible refine Kd.C_drew ?_))); (case side2 => exact (Kd.R_reads' HO269.out).2.1); rintro e w16 ⟨rfl, hb⟩; refine ⟨_, rfl, ?_⟩; have n0_ := Ad_.mk (Kd.R_below (by (with_reducible repeat (first | apply Kd.R_alloc | apply Kd.R_drewN | apply Kd.R_drew)); exact HO265.out) hb); have n1_ := Ad_.mk (Kd.R_below (by (with_reducible repeat (first | apply Kd.R_alloc | apply Kd.R_drewN | apply Kd.R_drew)); exact HO269.out) hb); have n2_ := Ad_.mk (bP_ (by repeat (with_reducible first | exact HB.out | apply bA_ | apply bN_ | apply b1_)) hb); clear HO265; clear HO269; clear HB; have HO265 := n0_; have HO269 := n1_; have HB := n2_; clear n0_ n1_ n2_; (try clear hb); (try clear hb2); (try clear hk); (try clear hi)))
   go_ret
   exact ⟨by first | rfl | (simp [errW_none, errW_some] <;> rfl) | (simp [*, errW_none, errW_some] <;> rfl), by repeat (with_reducible first | exact HB.out | apply bA_ | apply bN_ | apply b1_)⟩
  rw [if_neg c9] at H
  have c9b0 : (t270 != t266) = false := by simpa using c9
  (try (have c9b1 : decide (t270 = t266) = true := by simpa using c9))
  (try (have c9b2 : (t270 == t266) = true := by simpa using c9))
  clear c9
  replace H := Option.bind_eq_some_iff.mp H
  obtain ⟨t271, A170, H⟩ := H
  try dsimp only at H
  have A17 := Ad_.mk A170
  clear A170
  replace H := Option.bind_eq_some_iff.mp H
  obtain ⟨t274, A180, H⟩ := H
  try dsimp only at H
  have A18 := Ad_.mk A180
  clear A180
  by_cases c19 : t274 = true
  ·
   subst c19
   have H1 : (some true) = some r := by rw [if_pos rfl] at H; exact H
   clear H
   have H := H1
   clear H1
   obtain rfl := Option.some.inj H
   go_enter Tryd.func3, Tryd.ntmps3
   go_wp2_with (first | ((with_reducible refine gC_ (f := 14) rfl ?_); refine gM_ (some 9) rfl rfl Tryd.func14 (by kernel_rfl) rfl #[.slice A0 l0.length c0, .int .i64 1048576] rfl ?_; (with_reducible refine (laws_szNodeS.calls k _ _ l0 1048576 t262 _ ?side1 ?side2 A2.out).mono ?_); (case side1 => repeat (first | exact HR0.out | (with_reducible refine Kd.C_alloc ?_ _) | (with_reducible refine Kd.C_drewN ?_ _) | (with_reducible refine Kd.C_drew ?_))); (case side2 => exact HC0.out); rintro e w20 ⟨rfl, hb⟩; refine ⟨_, rfl, ?_⟩; have n0_ := Ad_.mk (bP_ (by repeat (with_reducible first | exact HB.out | apply bA_ | apply bN_ | apply b1_)) hb); clear HB; have HB := n0_; clear n0_; (try clear hb); (try clear hb2); (try clear hk); (try clear hi)) | ((with_reducible refine gC_ (f := 16) rfl ?_); refine gM_ (some 13) rfl rfl Tryd.func16 (by kernel_rfl) rfl #[.slice A0 l0.length c0] rfl ?_; (with_reducible refine (laws_toNodeS.calls k _ _ l0 t263 _ ?side1 ?side2 A5.out).mono ?_); (case side1 => repeat (first | exact (Kd.C_below HR0.out HB.out) | (with_reducible refine Kd.C_alloc ?_ _) | (with_reducible refine Kd.C_drewN ?_ _) | (with_reducible refine Kd.C_drew ?_))); (case side2 => exact HC0.out); rintro e w21 ⟨v264, rfl, ho0, hb⟩; refine ⟨_, rfl, ?_⟩; have n0_ := Ad_.mk (Kd.R_lower ho0 (bZ_ (by repeat (with_reducible first | exact HB.out | apply bA_ | apply bN_ | apply b1_)))); have n1_ := Ad_.mk (bP_ (by repeat (with_reducible first | exact HB.out | apply bA_ | apply bN_ | apply b1_)) hb); clear HB; have HO265 := n0_; have HB := n1_; clear n0_ n1_; (try clear hb); (try clear hb2); (try clear hk); (try clear hi); (try clear ho0); obtain ⟨Ao22, co22, eo22⟩ := Kd.R_slice HO265.out; subst eo22) | ((with_reducible refine gC_ (f := 15) rfl ?_); refine gM_ (some 14) rfl rfl Tryd.func15 (by kernel_rfl) rfl #[.slice Ao22 t263.length co22] rfl ?_; (with_reducible refine (spec_AnfOk.calls k _ _ t263 t266 _ ?side1 ?side2 A6.out).mono ?_); (case side1 => repeat (first | exact (Kd.R_reads' HO265.out).2.2 | (with_reducible refine Kd.C_alloc ?_ _) | (with_reducible refine Kd.C_drewN ?_ _) | (with_reducible refine Kd.C_drew ?_))); (case side2 => exact (Kd.R_reads' HO265.out).2.1); rintro e w23 ⟨rfl, hb⟩; refine ⟨_, rfl, ?_⟩; have n0_ := Ad_.mk (Kd.R_below (by (with_reducible repeat (first | apply Kd.R_alloc | apply Kd.R_drewN | apply Kd.R_drew)); exact HO265.out) hb); have n1_ := Ad_.mk (bP_ (by repeat (with_reducible first | exact HB.out | apply bA_ | apply bN_ | apply b1_)) hb); clear HO265; clear HB; have HO265 := n0_; have HB := n1_; clear n0_ n1_; (try clear hb); (try clear hb2); (try clear hk); (try clear hi)) | ((with_reducible refine gC_ (f := 16) rfl ?_); refine gM_ (some 16) rfl rfl Tryd.func16 (by kernel_rfl) rfl #[.slice A0 l0.length c0] rfl ?_; (with_reducible refine (laws_toNodeS.calls k _ _ l0 t267 _ ?side1 ?side2 A7.out).mono ?_); (case side1 => repeat (first | exact (Kd.C_below HR0.out HB.out) | (with_reducible refine Kd.C_alloc ?_ _) | (with_reducible refine Kd.C_drewN ?_ _) | (with_reducible refine Kd.C_drew ?_))); (case side2 => exact HC0.out); rintro e w24 ⟨v268, rfl, ho0, hb⟩; refine ⟨_, rfl, ?_⟩; have n0_ := Ad_.mk (Kd.R_elder' (by (with_reducible repeat (first | apply Kd.R_alloc | apply Kd.R_drewN | apply Kd.R_drew)); exact HO265.out) (Kd.R_base ho0) hb); have n1_ := Ad_.mk (Kd.R_lower (Kd.R_new' ho0 (Kd.R_lt (by (with_reducible repeat (first | apply Kd.R_alloc | apply Kd.R_drewN | apply Kd.R_drew)); exact HO265.out))) (bZ_ (by repeat (with_reducible first | exact HB.out | apply bA_ | apply bN_ | apply b1_)))); have n2_ := Ad_.mk (bP_ (by repeat (with_reducible first | exact HB.out | apply bA_ | apply bN_ | apply b1_)) hb); clear HO265; clear HB; have HO265 := n0_; have HO269 := n1_; have HB := n2_; clear n0_ n1_ n2_; (try clear hb); (try clear hb2); (try clear hk); (try clear hi); (try clear ho0); obtain ⟨Ao25, co25, eo25⟩ := Kd.R_slice HO269.out; subst eo25) | ((with_reducible refine gC_ (f := 17) rfl ?_); refine gM_ (some 18) rfl rfl Tryd.func17 (by kernel_rfl) rfl #[.slice Ao25 t267.length co25] rfl ?_; (with_reducible refine (impl_AnfOk.calls k _ _ t267 t270 _ ?side1 ?side2 A8.out).mono ?_); (case side1 => repeat (first | exact (Kd.R_reads' HO269.out).2.2 | (with_reducible refine Kd.C_alloc ?_ _) | (with_reducible refine Kd.C_drewN ?_ _) | (with_reducible refine Kd.C_drew ?_))); (case side2 => exact (Kd.R_reads' HO269.out).2.1); rintro e w26 ⟨rfl, hb⟩; refine ⟨_, rfl, ?_⟩; have n0_ := Ad_.mk (Kd.R_below (by (with_reducible repeat (first | apply Kd.R_alloc | apply Kd.R_drewN | apply Kd.R_drew)); exact HO265.out) hb); have n1_ := Ad_.mk (Kd.R_below (by (with_reducible repeat (first | apply Kd.R_alloc | apply Kd.R_drewN | apply Kd.R_drew)); exact HO269.out) hb); have n2_ := Ad_.mk (bP_ (by repeat (with_reducible first | exact HB.out | apply bA_ | apply bN_ | apply b1_)) hb); clear HO265; clear HO269; clear HB; have HO265 := n0_; have HO269 := n1_; have HB := n2_; clear n0_ n1_ n2_; (try clear hb); (try clear hb2); (try clear hk); (try clear hi)) | ((with_reducible refine gC_ (f := 16) rfl ?_); refine gM_ (some 24) rfl rfl Tryd.func16 (by kernel_rfl) rfl #[.slice A0 l0.length c0] rfl ?_; (with_reducible refine (laws_toNodeS.calls k _ _ l0 t271 _ ?side1 ?side2 A17.out).mono ?_); (case side1 => repeat (first | exact (Kd.C_below HR0.out HB.out) | (with_reducible refine Kd.C_alloc ?_ _) | (with_reducible refine Kd.C_drewN ?_ _) | (with_reducible refine Kd.C_drew ?_))); (case side2 => exact HC0.out); rintro e w27 ⟨v272, rfl, ho0, hb⟩; refine ⟨_, rfl, ?_⟩; have n0_ := Ad_.mk (Kd.R_elder' (by (with_reducible repeat (first | apply Kd.R_alloc | apply Kd.R_drewN | apply Kd.R_drew)); exact HO265.out) (Kd.R_base ho0) hb); have n1_ := Ad_.mk (Kd.R_elder' (by (with_reducible repeat (first | apply Kd.R_alloc | apply Kd.R_drewN | apply Kd.R_drew)); exact HO269.out) (Kd.R_base ho0) hb); have n2_ := Ad_.mk (Kd.R_lower (Kd.R_new' (Kd.R_new' ho0 (Kd.R_lt (by (with_reducible repeat (first | apply Kd.R_alloc | apply Kd.R_drewN | apply Kd.R_drew)); exact HO265.out))) (Kd.R_lt (by (with_reducible repeat (first | apply Kd.R_alloc | apply Kd.R_drewN | apply Kd.R_drew)); exact HO269.out))) (bZ_ (by repeat (with_reducible first | exact HB.out | apply bA_ | apply bN_ | apply b1_)))); have n3_ := Ad_.mk (bP_ (by repeat (with_reducible first | exact HB.out | apply bA_ | apply bN_ | apply b1_)) hb); clear HO265; clear HO269; clear HB; have HO265 := n0_; have HO269 := n1_; have HO273 := n2_; have HB := n3_; clear n0_ n1_ n2_ n3_; (try clear hb); (try clear hb2); (try clear hk); (try clear hi); (try clear ho0); obtain ⟨Ao28, co28, eo28⟩ := Kd.R_slice HO273.out; subst eo28) | ((with_reducible refine gC_ (f := 18) rfl ?_); refine gM_ (some 25) rfl rfl Tryd.func18 (by kernel_rfl) rfl #[.slice Ao25 t267.length co25, .slice Ao28 t271.length co28] rfl ?_; (with_reducible refine (laws_eqNodeS.calls k _ _ t267 _ _ t271 true _ ?side1 ?side2 ?side3 ?side4 A18.out).mono ?_); (case side1 => repeat (first | exact (Kd.R_reads' HO269.out).2.2 | (with_reducible refine Kd.C_alloc ?_ _) | (with_reducible refine Kd.C_drewN ?_ _) | (with_reducible refine Kd.C_drew ?_))); (case side2 => exact (Kd.R_reads' HO269.out).2.1); (case side3 => repeat (first | exact (Kd.R_reads' HO273.out).2.2 | (with_reducible refine Kd.C_alloc ?_ _) | (with_reducible refine Kd.C_drewN ?_ _) | (with_reducible refine Kd.C_drew ?_))); (case side4 => exact (Kd.R_reads' HO273.out).2.1); rintro e w29 ⟨rfl, hb⟩; refine ⟨_, rfl, ?_⟩; have n0_ := Ad_.mk (Kd.R_below (by (with_reducible repeat (first | apply Kd.R_alloc | apply Kd.R_drewN | apply Kd.R_drew)); exact HO265.out) hb); have n1_ := Ad_.mk (Kd.R_below (by (with_reducible repeat (first | apply Kd.R_alloc | apply Kd.R_drewN | apply Kd.R_drew)); exact HO269.out) hb); have n2_ := Ad_.mk (Kd.R_below (by (with_reducible repeat (first | apply Kd.R_alloc | apply Kd.R_drewN | apply Kd.R_drew)); exact HO273.out) hb); have n3_ := Ad_.mk (bP_ (by repeat (with_reducible first | exact HB.out | apply bA_ | apply bN_ | apply b1_)) hb); clear HO265; clear HO269; clear HO273; clear HB; have HO265 := n0_; have HO269 := n1_; have HO273 := n2_; have HB := n3_; clear n0_ n1_ n2_ n3_; (try clear hb); (try clear hb2); (try clear hk); (try clear hi)))
   go_ret
   exact ⟨by first | rfl | (simp [errW_none, errW_some] <;> rfl) | (simp [*, errW_none, errW_some] <;> rfl), by repeat (with_reducible first | exact HB.out | apply bA_ | apply bN_ | apply b1_)⟩
  replace c19 := Bool.eq_false_iff.mpr c19
  subst c19
  have H1 : (some false) = some r := by rw [if_neg (show ¬ (false = true) by decide)] at H; exact H
  clear H
  have H := H1
  clear H1
  obtain rfl := Option.some.inj H
  go_enter Tryd.func3, Tryd.ntmps3
  go_wp2_with (first | ((with_reducible refine gC_ (f := 14) rfl ?_); refine gM_ (some 9) rfl rfl Tryd.func14 (by kernel_rfl) rfl #[.slice A0 l0.length c0, .int .i64 1048576] rfl ?_; (with_reducible refine (laws_szNodeS.calls k _ _ l0 1048576 t262 _ ?side1 ?side2 A2.out).mono ?_); (case side1 => repeat (first | exact HR0.out | (with_reducible refine Kd.C_alloc ?_ _) | (with_reducible refine Kd.C_drewN ?_ _) | (with_reducible refine Kd.C_drew ?_))); (case side2 => exact HC0.out); rintro e w30 ⟨rfl, hb⟩; refine ⟨_, rfl, ?_⟩; have n0_ := Ad_.mk (bP_ (by repeat (with_reducible first | exact HB.out | apply bA_ | apply bN_ | apply b1_)) hb); clear HB; have HB := n0_; clear n0_; (try clear hb); (try clear hb2); (try clear hk); (try clear hi)) | ((with_reducible refine gC_ (f := 16) rfl ?_); refine gM_ (some 13) rfl rfl Tryd.func16 (by kernel_rfl) rfl #[.slice A0 l0.length c0] rfl ?_; (with_reducible refine (laws_toNodeS.calls k _ _ l0 t263 _ ?side1 ?side2 A5.out).mono ?_); (case side1 => repeat (first | exact (Kd.C_below HR0.out HB.out) | (with_reducible refine Kd.C_alloc ?_ _) | (with_reducible refine Kd.C_drewN ?_ _) | (with_reducible refine Kd.C_drew ?_))); (case side2 => exact HC0.out); rintro e w31 ⟨v264, rfl, ho0, hb⟩; refine ⟨_, rfl, ?_⟩; have n0_ := Ad_.mk (Kd.R_lower ho0 (bZ_ (by repeat (with_reducible first | exact HB.out | apply bA_ | apply bN_ | apply b1_)))); have n1_ := Ad_.mk (bP_ (by repeat (with_reducible first | exact HB.out | apply bA_ | apply bN_ | apply b1_)) hb); clear HB; have HO265 := n0_; have HB := n1_; clear n0_ n1_; (try clear hb); (try clear hb2); (try clear hk); (try clear hi); (try clear ho0); obtain ⟨Ao32, co32, eo32⟩ := Kd.R_slice HO265.out; subst eo32) | ((with_reducible refine gC_ (f := 15) rfl ?_); refine gM_ (some 14) rfl rfl Tryd.func15 (by kernel_rfl) rfl #[.slice Ao32 t263.length co32] rfl ?_; (with_reducible refine (spec_AnfOk.calls k _ _ t263 t266 _ ?side1 ?side2 A6.out).mono ?_); (case side1 => repeat (first | exact (Kd.R_reads' HO265.out).2.2 | (with_reducible refine Kd.C_alloc ?_ _) | (with_reducible refine Kd.C_drewN ?_ _) | (with_reducible refine Kd.C_drew ?_))); (case side2 => exact (Kd.R_reads' HO265.out).2.1); rintro e w33 ⟨rfl, hb⟩; refine ⟨_, rfl, ?_⟩; have n0_ := Ad_.mk (Kd.R_below (by (with_reducible repeat (first | apply Kd.R_alloc | apply Kd.R_drewN | apply Kd.R_drew)); exact HO265.out) hb); have n1_ := Ad_.mk (bP_ (by repeat (with_reducible first | exact HB.out | apply bA_ | apply bN_ | apply b1_)) hb); clear HO265; clear HB; have HO265 := n0_; have HB := n1_; clear n0_ n1_; (try clear hb); (try clear hb2); (try clear hk); (try clear hi)) | ((with_reducible refine gC_ (f := 16) rfl ?_); refine gM_ (some 16) rfl rfl Tryd.func16 (by kernel_rfl) rfl #[.slice A0 l0.length c0] rfl ?_; (with_reducible refine (laws_toNodeS.calls k _ _ l0 t267 _ ?side1 ?side2 A7.out).mono ?_); (case side1 => repeat (first | exact (Kd.C_below HR0.out HB.out) | (with_reducible refine Kd.C_alloc ?_ _) | (with_reducible refine Kd.C_drewN ?_ _) | (with_reducible refine Kd.C_drew ?_))); (case side2 => exact HC0.out); rintro e w34 ⟨v268, rfl, ho0, hb⟩; refine ⟨_, rfl, ?_⟩; have n0_ := Ad_.mk (Kd.R_elder' (by (with_reducible repeat (first | apply Kd.R_alloc | apply Kd.R_drewN | apply Kd.R_drew)); exact HO265.out) (Kd.R_base ho0) hb); have n1_ := Ad_.mk (Kd.R_lower (Kd.R_new' ho0 (Kd.R_lt (by (with_reducible repeat (first | apply Kd.R_alloc | apply Kd.R_drewN | apply Kd.R_drew)); exact HO265.out))) (bZ_ (by repeat (with_reducible first | exact HB.out | apply bA_ | apply bN_ | apply b1_)))); have n2_ := Ad_.mk (bP_ (by repeat (with_reducible first | exact HB.out | apply bA_ | apply bN_ | apply b1_)) hb); clear HO265; clear HB; have HO265 := n0_; have HO269 := n1_; have HB := n2_; clear n0_ n1_ n2_; (try clear hb); (try clear hb2); (try clear hk); (try clear hi); (try clear ho0); obtain ⟨Ao35, co35, eo35⟩ := Kd.R_slice HO269.out; subst eo35) | ((with_reducible refine gC_ (f := 17) rfl ?_); refine gM_ (some 18) rfl rfl Tryd.func17 (by kernel_rfl) rfl #[.slice Ao35 t267.length co35] rfl ?_; (with_reducible refine (impl_AnfOk.calls k _ _ t267 t270 _ ?side1 ?side2 A8.out).mono ?_); (case side1 => repeat (first | exact (Kd.R_reads' HO269.out).2.2 | (with_reducible refine Kd.C_alloc ?_ _) | (with_reducible refine Kd.C_drewN ?_ _) | (with_reducible refine Kd.C_drew ?_))); (case side2 => exact (Kd.R_reads' HO269.out).2.1); rintro e w36 ⟨rfl, hb⟩; refine ⟨_, rfl, ?_⟩; have n0_ := Ad_.mk (Kd.R_below (by (with_reducible repeat (first | apply Kd.R_alloc | apply Kd.R_drewN | apply Kd.R_drew)); exact HO265.out) hb); have n1_ := Ad_.mk (Kd.R_below (by (with_reducible repeat (first | apply Kd.R_alloc | apply Kd.R_drewN | apply Kd.R_drew)); exact HO269.out) hb); have n2_ := Ad_.mk (bP_ (by repeat (with_reducible first | exact HB.out | apply bA_ | apply bN_ | apply b1_)) hb); clear HO265; clear HO269; clear HB; have HO265 := n0_; have HO269 := n1_; have HB := n2_; clear n0_ n1_ n2_; (try clear hb); (try clear hb2); (try clear hk); (try clear hi)) | ((with_reducible refine gC_ (f := 16) rfl ?_); refine gM_ (some 24) rfl rfl Tryd.func16 (by kernel_rfl) rfl #[.slice A0 l0.length c0] rfl ?_; (with_reducible refine (laws_toNodeS.calls k _ _ l0 t271 _ ?side1 ?side2 A17.out).mono ?_); (case side1 => repeat (first | exact (Kd.C_below HR0.out HB.out) | (with_reducible refine Kd.C_alloc ?_ _) | (with_reducible refine Kd.C_drewN ?_ _) | (with_reducible refine Kd.C_drew ?_))); (case side2 => exact HC0.out); rintro e w37 ⟨v272, rfl, ho0, hb⟩; refine ⟨_, rfl, ?_⟩; have n0_ := Ad_.mk (Kd.R_elder' (by (with_reducible repeat (first | apply Kd.R_alloc | apply Kd.R_drewN | apply Kd.R_drew)); exact HO265.out) (Kd.R_base ho0) hb); have n1_ := Ad_.mk (Kd.R_elder' (by (with_reducible repeat (first | apply Kd.R_alloc | apply Kd.R_drewN | apply Kd.R_drew)); exact HO269.out) (Kd.R_base ho0) hb); have n2_ := Ad_.mk (Kd.R_lower (Kd.R_new' (Kd.R_new' ho0 (Kd.R_lt (by (with_reducible repeat (first | apply Kd.R_alloc | apply Kd.R_drewN | apply Kd.R_drew)); exact HO265.out))) (Kd.R_lt (by (with_reducible repeat (first | apply Kd.R_alloc | apply Kd.R_drewN | apply Kd.R_drew)); exact HO269.out))) (bZ_ (by repeat (with_reducible first | exact HB.out | apply bA_ | apply bN_ | apply b1_)))); have n3_ := Ad_.mk (bP_ (by repeat (with_reducible first | exact HB.out | apply bA_ | apply bN_ | apply b1_)) hb); clear HO265; clear HO269; clear HB; have HO265 := n0_; have HO269 := n1_; have HO273 := n2_; have HB := n3_; clear n0_ n1_ n2_ n3_; (try clear hb); (try clear hb2); (try clear hk); (try clear hi); (try clear ho0); obtain ⟨Ao38, co38, eo38⟩ := Kd.R_slice HO273.out; subst eo38) | ((with_reducible refine gC_ (f := 18) rfl ?_); refine gM_ (some 25) rfl rfl Tryd.func18 (by kernel_rfl) rfl #[.slice Ao35 t267.length co35, .slice Ao38 t271.length co38] rfl ?_; (with_reducible refine (laws_eqNodeS.calls k _ _ t267 _ _ t271 false _ ?side1 ?side2 ?side3 ?side4 A18.out).mono ?_); (case side1 => repeat (first | exact (Kd.R_reads' HO269.out).2.2 | (with_reducible refine Kd.C_alloc ?_ _) | (with_reducible refine Kd.C_drewN ?_ _) | (with_reducible refine Kd.C_drew ?_))); (case side2 => exact (Kd.R_reads' HO269.out).2.1); (case side3 => repeat (first | exact (Kd.R_reads' HO273.out).2.2 | (with_reducible refine Kd.C_alloc ?_ _) | (with_reducible refine Kd.C_drewN ?_ _) | (with_reducible refine Kd.C_drew ?_))); (case side4 => exact (Kd.R_reads' HO273.out).2.1); rintro e w39 ⟨rfl, hb⟩; refine ⟨_, rfl, ?_⟩; have n0_ := Ad_.mk (Kd.R_below (by (with_reducible repeat (first | apply Kd.R_alloc | apply Kd.R_drewN | apply Kd.R_drew)); exact HO265.out) hb); have n1_ := Ad_.mk (Kd.R_below (by (with_reducible repeat (first | apply Kd.R_alloc | apply Kd.R_drewN | apply Kd.R_drew)); exact HO269.out) hb); have n2_ := Ad_.mk (Kd.R_below (by (with_reducible repeat (first | apply Kd.R_alloc | apply Kd.R_drewN | apply Kd.R_drew)); exact HO273.out) hb); have n3_ := Ad_.mk (bP_ (by repeat (with_reducible first | exact HB.out | apply bA_ | apply bN_ | apply b1_)) hb); clear HO265; clear HO269; clear HO273; clear HB; have HO265 := n0_; have HO269 := n1_; have HO273 := n2_; have HB := n3_; clear n0_ n1_ n2_ n3_; (try clear hb); (try clear hb2); (try clear hk); (try clear hi)))
  go_ret
  exact ⟨by first | rfl | (simp [errW_none, errW_some] <;> rfl) | (simp [*, errW_none, errW_some] <;> rfl), by repeat (with_reducible first | exact HB.out | apply bA_ | apply bN_ | apply b1_)⟩
def spec_l4Has.l0 : Nat → List Int → Int → Int → Option (Bool)
  | 0, _, _, _ => none
  | k + 1, x0, x1, x5 => if x5 < (x0.length : Int) then (if 0 ≤ x5 then (if (rd x0 x5) = x1 then (some true) else (spec_l4Has.l0 k x0 x1 (wrap64 (x5 + 1)))) else (none)) else (some false)
def spec_l4Has.f (k : Nat) (l0 : List Int) (a1 : Int) : Option (Bool) := spec_l4Has.l0 k l0 a1 0
theorem spec_l4Has.mono_l : ∀ k, (∀ y0 y1 y2, LeO (spec_l4Has.l0 k y0 y1 y2) (spec_l4Has.l0 (k + 1) y0 y1 y2))
  | 0 => fun _ _ _ r h => by simp [spec_l4Has.l0] at h
  | k + 1 => by
    have ih0 := spec_l4Has.mono_l k
    · intro y0 y1 y2
      unfold spec_l4Has.l0
      repeat' first
      | (with_reducible exact ih0 _ _ _)
      | (with_reducible exact LeO.refl _)
      | (with_reducible exact LeO.none _)
      | (with_reducible refine LeO.ite ?_ ?_)
      | (with_reducible refine LeO.bind ?_ (fun _ => ?_))
      | exact LeO.none _
      | refine LeO.ite ?_ ?_
      | refine LeO.bind ?_ (fun _ => ?_)
theorem spec_l4Has.mono : ∀ a0 a1 k, LeO (spec_l4Has.f k a0 a1) (spec_l4Has.f (k + 1) a0 a1) := by
  intro a0 a1 k
  have ih0 := spec_l4Has.mono_l k
  unfold spec_l4Has.f
  repeat' first
      | (with_reducible exact ih0 _ _ _)
      | (with_reducible exact LeO.refl _)
      | (with_reducible exact LeO.none _)
      | (with_reducible refine LeO.ite ?_ ?_)
      | (with_reducible refine LeO.bind ?_ (fun _ => ?_))
      | exact LeO.none _
      | refine LeO.ite ?_ ?_
      | refine LeO.bind ?_ (fun _ => ?_)
set_option maxHeartbeats 8000000 in
set_option maxRecDepth 100000 in
theorem spec_l4Has.calls (k : Nat) (A0 : Option Addr) (c0 : Nat) (l0 : List Int) (a1 : Int) (r : Bool) (w : World) (hr0 : Kd.C (Kd.int .i64) w A0 l0.length l0) (hc0 : l0.length ≤ c0) (h : spec_l4Has.f k l0 a1 = some r) :
    Calls Tryd.prog 101 #[.slice A0 l0.length c0, .int .i64 a1] w fun e w' => e = .returned (.bool r) ∧ Drawn0 w w' := by
  have HR0 := Ad_.mk hr0
  have HC0 := Ad_.mk hc0
  clear hr0 hc0
  have H : (spec_l4Has.l0 k l0 a1 0) = some r := h
  clear h
  have H' := Ad_.mk H
  clear H
  go_enter Tryd.func101, Tryd.ntmps101
  go_wp2
  go_loopg [5] k (fun kq v5 w' => ∃ (x5_1 : Int), v5 = .int .i64 x5_1 ∧ Ad_ (spec_l4Has.l0 kq l0 a1 x5_1 = some r) ∧ Ad_ (kq ≤ k) ∧ Drawn0 w w')
  case atStart => exact ⟨(0), fs_, H', ⟨Nat.le_refl _⟩, by repeat (first | exact Drawn0.refl _ | apply Drawn0.step)⟩
  case round =>
    clear H'
    try clear p2
    obtain ⟨x5_1, rfl, HA, HK1, ⟨m1, rfl⟩⟩ := hrel
    cases gk with
    | zero => exact absurd HA.out (by simp [spec_l4Has.l0])
    | succ k1 =>
      have H := HA.out
      clear HA
      simp only [spec_l4Has.l0] at H
      by_cases c3 : x5_1 < (l0.length : Int)
      rotate_left
      ·
       rw [if_neg c3] at H
       have c3b0 := decide_eq_false c3
       clear c3
       obtain rfl := Option.some.inj H
       go_wp2
       go_ret
       exact ⟨by first | rfl | (simp; done) | (simp [*]; done), by repeat (first | exact Drawn0.refl _ | apply Drawn0.step)⟩
      rw [if_pos c3] at H
      have c3b0 := decide_eq_true c3
      clear c3
      by_cases c4 : 0 ≤ x5_1
      rotate_left
      ·
       rw [if_neg c4] at H
       exact absurd H (by simp)
      rw [if_pos c4] at H
      have c4b0 := decide_eq_true c4
      clear c4
      by_cases c5 : (rd l0 x5_1) = a1
      ·
       rw [if_pos c5] at H
       have c5b0 : ((rd l0 x5_1) == a1) = true := beq_iff_eq.mpr c5
       have c5b1 : ((rd l0 x5_1) != a1) = false := bne_eq_false_iff_eq.mpr c5
       clear c5
       obtain rfl := Option.some.inj H
       have p275 : 0 ≤ (x5_1 : Int) := od_
       have q275 : x5_1 < (l0.length : Int) := od_
       obtain ⟨ad275, e275, hx275_0⟩ := Kd.at_int HR0.out x5_1 p275 q275
       cases e275
       replace p275 := eq_true p275
       replace q275 := eq_true q275
       go_wp2
       go_ret
       exact ⟨by first | rfl | (simp; done) | (simp [*]; done), by repeat (first | exact Drawn0.refl _ | apply Drawn0.step)⟩
      rw [if_neg c5] at H
      have c5b0 : ((rd l0 x5_1) == a1) = false := beq_eq_false_iff_ne.mpr c5
      have c5b1 : ((rd l0 x5_1) != a1) = true := bne_iff_ne.mpr c5
      have H' := Ad_.mk H
      clear H
      have p275 : 0 ≤ (x5_1 : Int) := od_
      have q275 : x5_1 < (l0.length : Int) := od_
      obtain ⟨ad275, e275, hx275_0⟩ := Kd.at_int HR0.out x5_1 p275 q275
      cases e275
      replace p275 := eq_true p275
      replace q275 := eq_true q275
      go_wp2
      go_roundg k1
      case measure => have := HK1.out; omega
      case rel => exact ⟨(wrap64 (x5_1 + 1)), fs_, H', ⟨by have := HK1.out; omega⟩, by repeat (first | exact Drawn0.refl _ | apply Drawn0.step)⟩
def spec_ParentOf.l0 : Nat → List (S55) → Int → Int → Option (Int)
  | 0, _, _, _ => none
  | k + 1, x0, x1, x5 => if x5 < (x0.length : Int) then (if 0 ≤ x5 then ((spec_Kids.f k ((rd_T55 x0 x5).f0) ((rd_T55 x0 x5).f1) ((rd_T55 x0 x5).f2) ((rd_T55 x0 x5).f3) ((rd_T55 x0 x5).f4) ((rd_T55 x0 x5).f5) ((rd_T55 x0 x5).f6)).bind fun t278 => ((spec_l4Has.f k t278 x1).bind fun t281 => (if t281 = true then (some x5) else (spec_ParentOf.l0 k x0 x1 (wrap64 (x5 + 1)))))) else (none)) else (some (-1))
def spec_ParentOf.f (k : Nat) (l0 : List (S55)) (a1 : Int) : Option (Int) := (spec_NodesOk.f k l0).bind fun t276 => (if t276 = true then (spec_ParentOf.l0 k l0 a1 0) else (some (-1)))
theorem spec_ParentOf.mono_l : ∀ k, (∀ y0 y1 y2, LeO (spec_ParentOf.l0 k y0 y1 y2) (spec_ParentOf.l0 (k + 1) y0 y1 y2))
  | 0 => fun _ _ _ r h => by simp [spec_ParentOf.l0] at h
  | k + 1 => by
    have ih0 := spec_ParentOf.mono_l k
    · intro y0 y1 y2
      unfold spec_ParentOf.l0
      repeat' first
      | (with_reducible exact ih0 _ _ _)
      | (with_reducible exact spec_Kids.mono _ _ _ _ _ _ _ _)
      | (with_reducible exact spec_NodesOk.mono _ _)
      | (with_reducible exact spec_l4Has.mono _ _ _)
      | (with_reducible exact LeO.refl _)
      | (with_reducible exact LeO.none _)
      | (with_reducible refine LeO.ite ?_ ?_)
      | (with_reducible refine LeO.bind ?_ (fun _ => ?_))
      | exact LeO.none _
      | refine LeO.ite ?_ ?_
      | refine LeO.bind ?_ (fun _ => ?_)
theorem spec_ParentOf.mono : ∀ a0 a1 k, LeO (spec_ParentOf.f k a0 a1) (spec_ParentOf.f (k + 1) a0 a1) := by
  intro a0 a1 k
  have ih0 := spec_ParentOf.mono_l k
  unfold spec_ParentOf.f
  repeat' first
      | (with_reducible exact ih0 _ _ _)
      | (with_reducible exact spec_Kids.mono _ _ _ _ _ _ _ _)
      | (with_reducible exact spec_NodesOk.mono _ _)
      | (with_reducible exact spec_l4Has.mono _ _ _)
      | (with_reducible exact LeO.refl _)
      | (with_reducible exact LeO.none _)
      | (with_reducible refine LeO.ite ?_ ?_)
      | (with_reducible refine LeO.bind ?_ (fun _ => ?_))
      | exact LeO.none _
      | refine LeO.ite ?_ ?_
      | refine LeO.bind ?_ (fun _ => ?_)
set_option maxHeartbeats 8000000 in
set_option maxRecDepth 100000 in
theorem spec_ParentOf.calls (k : Nat) (A0 : Option Addr) (c0 : Nat) (l0 : List (S55)) (a1 : Int) (r : Int) (w : World) (hr0 : Kd.C k55 w A0 l0.length l0) (hc0 : l0.length ≤ c0) (h : spec_ParentOf.f k l0 a1 = some r) :
    Calls Tryd.prog 69 #[.slice A0 l0.length c0, .int .i64 a1] w fun e w' => e = .returned (.int .i64 r) ∧ Below w.heap.size w w' := by
  have hu55 := Tryd.underlying55
  have HR0 := Ad_.mk hr0
  have HC0 := Ad_.mk hc0
  clear hr0 hc0
  have HB := Ad_.mk (Below.refl w.heap.size w)
  have H := h
  unfold spec_ParentOf.f at H
  clear h
  replace H := Option.bind_eq_some_iff.mp H
  obtain ⟨t276, A30, H⟩ := H
  try dsimp only at H
  have A3 := Ad_.mk A30
  clear A30
  by_cases c4 : t276 = true
  rotate_left
  ·
   replace c4 := Bool.eq_false_iff.mpr c4
   subst c4
   have H1 : (some (-1)) = some r := by rw [if_neg (show ¬ (false = true) by decide)] at H; exact H
   clear H
   have H := H1
   clear H1
   obtain rfl := Option.some.inj H
   go_enter Tryd.func69, Tryd.ntmps69
   go_wp2_with (first | ((with_reducible refine gC_ (f := 49) rfl ?_); refine gM_ (some 7) rfl rfl Tryd.func49 (by kernel_rfl) rfl #[.slice A0 l0.length c0] rfl ?_; (with_reducible refine (spec_NodesOk.calls k _ _ l0 false _ ?side1 ?side2 A3.out).mono ?_); (case side1 => repeat (first | exact HR0.out | (with_reducible refine Kd.C_alloc ?_ _) | (with_reducible refine Kd.C_drewN ?_ _) | (with_reducible refine Kd.C_drew ?_))); (case side2 => exact HC0.out); rintro e w15 ⟨rfl, hb⟩; refine ⟨_, rfl, ?_⟩; have n0_ := Ad_.mk (bP_ (by repeat (with_reducible first | exact HB.out | apply bA_ | apply bN_ | apply b1_)) hb); clear HB; have HB := n0_; clear n0_; (try clear hb); (try clear hb2); (try clear hk); (try clear hi)))
   go_ret
   exact ⟨by first | rfl | (simp [errW_none, errW_some] <;> rfl) | (simp [*, errW_none, errW_some] <;> rfl), by repeat (with_reducible first | exact HB.out | apply bA_ | apply bN_ | apply b1_)⟩
  subst c4
  have H1 := H
  rw [if_pos rfl] at H1
  clear H
  have H := H1
  clear H1
  have H' := Ad_.mk H
  clear H
  go_enter Tryd.func69, Tryd.ntmps69
  go_wp2_with (first | ((with_reducible refine gC_ (f := 49) rfl ?_); refine gM_ (some 7) rfl rfl Tryd.func49 (by kernel_rfl) rfl #[.slice A0 l0.length c0] rfl ?_; (with_reducible refine (spec_NodesOk.calls k _ _ l0 true _ ?side1 ?side2 A3.out).mono ?_); (case side1 => repeat (first | exact HR0.out | (with_reducible refine Kd.C_alloc ?_ _) | (with_reducible refine Kd.C_drewN ?_ _) | (with_reducible refine Kd.C_drew ?_))); (case side2 => exact HC0.out); rintro e w5 ⟨rfl, hb⟩; refine ⟨_, rfl, ?_⟩; have n0_ := Ad_.mk (bP_ (by repeat (with_reducible first | exact HB.out | apply bA_ | apply bN_ | apply b1_)) hb); clear HB; have HB := n0_; clear n0_; (try clear hb); (try clear hb2); (try clear hk); (try clear hi)))
  go_loopg [5] k (fun kq v5 w' => ∃ (x5_1 : Int), v5 = .int .i64 x5_1 ∧ Ad_ (spec_ParentOf.l0 kq l0 a1 x5_1 = some r) ∧ Ad_ (kq ≤ k) ∧ Ad_ (Below w.heap.size w w'))
  case atStart => exact ⟨(0), fs_, H', ⟨Nat.le_refl _⟩, ⟨by repeat (with_reducible first | exact HB.out | apply bA_ | apply bN_ | apply b1_)⟩⟩
  case round =>
    clear H'
    try clear p2
    obtain ⟨x5_1, rfl, HA, HK1, HB⟩ := hrel
    cases gk with
    | zero => exact absurd HA.out (by simp [spec_ParentOf.l0])
    | succ k1 =>
      have H := HA.out
      clear HA
      simp only [spec_ParentOf.l0] at H
      by_cases c6 : x5_1 < (l0.length : Int)
      rotate_left
      ·
       rw [if_neg c6] at H
       have c6b0 := decide_eq_false c6
       clear c6
       obtain rfl := Option.some.inj H
       go_wp2
       go_ret
       exact ⟨by first | rfl | (simp [errW_none, errW_some] <;> rfl) | (simp [*, errW_none, errW_some] <;> rfl), by repeat (with_reducible first | exact HB.out | apply bA_ | apply bN_ | apply b1_)⟩
      rw [if_pos c6] at H
      have c6b0 := decide_eq_true c6
      clear c6
      by_cases c7 : 0 ≤ x5_1
      rotate_left
      ·
       rw [if_neg c7] at H
       exact absurd H (by simp)
      rw [if_pos c7] at H
      have c7b0 := decide_eq_true c7
      clear c7
      replace H := Option.bind_eq_some_iff.mp H
      obtain ⟨t278, A80, H⟩ := H
      try dsimp only at H
      have A8 := Ad_.mk A80
      clear A80
      replace H := Option.bind_eq_some_iff.mp H
      obtain ⟨t281, A90, H⟩ := H
      try dsimp only at H
      have A9 := Ad_.mk A90
      clear A90
      by_cases c10 : t281 = true
      ·
       subst c10
       have H1 : (some x5_1) = some r := by rw [if_pos rfl] at H; exact H
       clear H
       have H := H1
       clear H1
       obtain rfl := Option.some.inj H
       have p277 : 0 ≤ (x5_1 : Int) := od_
       have q277 : x5_1 < (l0.length : Int) := od_
       obtain ⟨ad277, e277, hx277_0, hx277_1, hx277_2, hx277_3, hx277_4, hx277_5, hx277_6⟩ := at_T55 HR0.out x5_1 p277 q277
       cases e277
       replace hx277_0 := pB_ HB.out hx277_0
       replace hx277_1 := pB_ HB.out hx277_1
       replace hx277_2 := pB_ HB.out hx277_2
       replace hx277_3 := pB_ HB.out hx277_3
       replace hx277_4 := pB_ HB.out hx277_4
       replace hx277_5 := pB_ HB.out hx277_5
       replace hx277_6 := pB_ HB.out hx277_6
       replace p277 := eq_true p277
       replace q277 := eq_true q277
       go_wp2_with (first | ((with_reducible refine gC_ (f := 100) rfl ?_); refine gM_ (some 19) rfl rfl Tryd.func100 (by kernel_rfl) rfl #[.agg #[.int .i64 ((rd_T55 l0 x5_1).f0), .int .i64 ((rd_T55 l0 x5_1).f1), .int .i64 ((rd_T55 l0 x5_1).f2), .int .i64 ((rd_T55 l0 x5_1).f3), .int .i64 ((rd_T55 l0 x5_1).f4), .string ((rd_T55 l0 x5_1).f5), .string ((rd_T55 l0 x5_1).f6)]] rfl ?_; (with_reducible refine (spec_Kids.calls k1 ((rd_T55 l0 x5_1).f0) ((rd_T55 l0 x5_1).f1) ((rd_T55 l0 x5_1).f2) ((rd_T55 l0 x5_1).f3) ((rd_T55 l0 x5_1).f4) ((rd_T55 l0 x5_1).f5) ((rd_T55 l0 x5_1).f6) t278 _ A8.out).mono ?_); rintro e w11 ⟨v279, rfl, ho0, hb⟩; refine ⟨_, rfl, ?_⟩; have n0_ := Ad_.mk (Kd.R_lower ho0 (bZ_ (by repeat (with_reducible first | exact HB.out | apply bA_ | apply bN_ | apply b1_)))); have n1_ := Ad_.mk (bP_ (by repeat (with_reducible first | exact HB.out | apply bA_ | apply bN_ | apply b1_)) hb); clear HB; have HO280 := n0_; have HB := n1_; clear n0_ n1_; (try clear hb); (try clear hb2); (try clear hk); (try clear hi); (try clear ho0); obtain ⟨Ao12, co12, eo12⟩ := Kd.R_slice HO280.out; subst eo12) | ((with_reducible refine gC_ (f := 101) rfl ?_); refine gM_ (some 21) rfl rfl Tryd.func101 (by kernel_rfl) rfl #[.slice Ao12 t278.length co12, .int .i64 a1] rfl ?_; (with_reducible refine (spec_l4Has.calls k1 _ _ t278 a1 true _ ?side1 ?side2 A9.out).mono ?_); (case side1 => repeat (first | exact (Kd.R_reads' HO280.out).2.2 | (with_reducible refine Kd.C_alloc ?_ _) | (with_reducible refine Kd.C_drewN ?_ _) | (with_reducible refine Kd.C_drew ?_))); (case side2 => exact (Kd.R_reads' HO280.out).2.1); rintro e w' ⟨rfl, ⟨nd, rfl⟩⟩; refine ⟨_, rfl, ?_⟩))
       go_ret
       exact ⟨by first | rfl | (simp [errW_none, errW_some] <;> rfl) | (simp [*, errW_none, errW_some] <;> rfl), by repeat (with_reducible first | exact HB.out | apply bA_ | apply bN_ | apply b1_)⟩
      replace c10 := Bool.eq_false_iff.mpr c10
      subst c10
      have H1 : (spec_ParentOf.l0 k1 l0 a1 (wrap64 (x5_1 + 1))) = some r := by rw [if_neg (show ¬ (false = true) by decide)] at H; exact H
      clear H
      have H := H1
      clear H1
      have H' := Ad_.mk H
      clear H
      have p277 : 0 ≤ (x5_1 : Int) := od_
      have q277 : x5_1 < (l0.length : Int) := od_
      obtain ⟨ad277, e277, hx277_0, hx277_1, hx277_2, hx277_3, hx277_4, hx277_5, hx277_6⟩ := at_T55 HR0.out x5_1 p277 q277
      cases e277
      replace hx277_0 := pB_ HB.out hx277_0
      replace hx277_1 := pB_ HB.out hx277_1
      replace hx277_2 := pB_ HB.out hx277_2
      replace hx277_3 := pB_ HB.out hx277_3
      replace hx277_4 := pB_ HB.out hx277_4
      replace hx277_5 := pB_ HB.out hx277_5
      replace hx277_6 := pB_ HB.out hx277_6
      replace p277 := eq_true p277
      replace q277 := eq_true q277
      go_wp2_with (first | ((with_reducible refine gC_ (f := 100) rfl ?_); refine gM_ (some 19) rfl rfl Tryd.func100 (by kernel_rfl) rfl #[.agg #[.int .i64 ((rd_T55 l0 x5_1).f0), .int .i64 ((rd_T55 l0 x5_1).f1), .int .i64 ((rd_T55 l0 x5_1).f2), .int .i64 ((rd_T55 l0 x5_1).f3), .int .i64 ((rd_T55 l0 x5_1).f4), .string ((rd_T55 l0 x5_1).f5), .string ((rd_T55 l0 x5_1).f6)]] rfl ?_; (with_reducible refine (spec_Kids.calls k1 ((rd_T55 l0 x5_1).f0) ((rd_T55 l0 x5_1).f1) ((rd_T55 l0 x5_1).f2) ((rd_T55 l0 x5_1).f3) ((rd_T55 l0 x5_1).f4) ((rd_T55 l0 x5_1).f5) ((rd_T55 l0 x5_1).f6) t278 _ A8.out).mono ?_); rintro e w13 ⟨v279, rfl, ho0, hb⟩; refine ⟨_, rfl, ?_⟩; have n0_ := Ad_.mk (Kd.R_lower ho0 (bZ_ (by repeat (with_reducible first | exact HB.out | apply bA_ | apply bN_ | apply b1_)))); have n1_ := Ad_.mk (bP_ (by repeat (with_reducible first | exact HB.out | apply bA_ | apply bN_ | apply b1_)) hb); clear HB; have HO280 := n0_; have HB := n1_; clear n0_ n1_; (try clear hb); (try clear hb2); (try clear hk); (try clear hi); (try clear ho0); obtain ⟨Ao14, co14, eo14⟩ := Kd.R_slice HO280.out; subst eo14) | ((with_reducible refine gC_ (f := 101) rfl ?_); refine gM_ (some 21) rfl rfl Tryd.func101 (by kernel_rfl) rfl #[.slice Ao14 t278.length co14, .int .i64 a1] rfl ?_; (with_reducible refine (spec_l4Has.calls k1 _ _ t278 a1 false _ ?side1 ?side2 A9.out).mono ?_); (case side1 => repeat (first | exact (Kd.R_reads' HO280.out).2.2 | (with_reducible refine Kd.C_alloc ?_ _) | (with_reducible refine Kd.C_drewN ?_ _) | (with_reducible refine Kd.C_drew ?_))); (case side2 => exact (Kd.R_reads' HO280.out).2.1); rintro e w' ⟨rfl, ⟨nd, rfl⟩⟩; refine ⟨_, rfl, ?_⟩))
      go_roundg k1
      case measure => have := HK1.out; omega
      case rel => exact ⟨(wrap64 (x5_1 + 1)), fs_, H', ⟨by have := HK1.out; omega⟩, ⟨by repeat (with_reducible first | exact HB.out | apply bA_ | apply bN_ | apply b1_)⟩⟩
end Go.Proofs.YtfmlamheflbgdaaDoor.PAll
end
