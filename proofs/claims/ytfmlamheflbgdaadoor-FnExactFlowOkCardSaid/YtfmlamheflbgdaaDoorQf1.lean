/- For each function of the Go program that is named here: its Lean function, and that Go comes to just its answer. Written by a program of the session out of the translation. -/
import Derived.Test.YtfmlamheflbgdaaDoorQf0
import Derived.Shelf.Strings.Split
import Derived.Test.YtfmlamheflbgdaaDoorProg
section
namespace Go.Proofs.YtfmlamheflbgdaaDoor.PAll
open Go.RowKit Go.Proofs.YtfmlamheflbgdaaDoorW.PrintWords Go.Proofs.YtfmlamheflbgdaaDoorW.PrintLast Go.Proofs.YtfmlamheflbgdaaDoorW.PrintMore
attribute [local go_sem] max2_int min2_int max_two min_two max_three min_three max_four min_four
set_option linter.unusedVariables false
set_option linter.unusedSimpArgs false
def laws_toNodeS.l0 : Nat → List (S62) → List (S55) → Int → Option ((List (S55)))
  | 0, _, _, _ => none
  | k + 1, x0, x3, x4 => if x4 < (x0.length : Int) then (if 0 ≤ x4 then ((laws_toNode.f ((rd_T62 x0 x4).f0) ((rd_T62 x0 x4).f1) ((rd_T62 x0 x4).f2) ((rd_T62 x0 x4).f3) ((rd_T62 x0 x4).f4) ((rd_T62 x0 x4).f5) ((rd_T62 x0 x4).f6)).bind fun bt192 => (if x4 < (x3.length : Int) then (laws_toNodeS.l0 k x0 (x3.set (x4 : Int).toNat (⟨bt192.1, bt192.2.1, bt192.2.2.1, bt192.2.2.2.1, bt192.2.2.2.2.1, bt192.2.2.2.2.2.1, bt192.2.2.2.2.2.2⟩ : S55)) (wrap64 (x4 + 1))) else (none))) else (none)) else (some x3)
def laws_toNodeS.f (k : Nat) (l0 : List (S62)) : Option ((List (S55))) := if 0 ≤ (l0.length : Int) then (if ((l0.length : Int) : Int).toNat ≤ 3909374676536 then (laws_toNodeS.l0 k l0 (List.replicate ((l0.length : Int) : Int).toNat z55) 0) else (none)) else (none)
theorem laws_toNodeS.mono_l : ∀ k, (∀ y0 y1 y2, LeO (laws_toNodeS.l0 k y0 y1 y2) (laws_toNodeS.l0 (k + 1) y0 y1 y2))
  | 0 => fun _ _ _ r h => by simp [laws_toNodeS.l0] at h
  | k + 1 => by
    have ih0 := laws_toNodeS.mono_l k
    · intro y0 y1 y2
      unfold laws_toNodeS.l0
      repeat' first
      | (with_reducible exact ih0 _ _ _)
      | (with_reducible exact LeO.refl _)
      | (with_reducible exact LeO.none _)
      | (with_reducible refine LeO.ite ?_ ?_)
      | (with_reducible refine LeO.bind ?_ (fun _ => ?_))
      | exact LeO.none _
      | refine LeO.ite ?_ ?_
      | refine LeO.bind ?_ (fun _ => ?_)
theorem laws_toNodeS.mono : ∀ a0 k, LeO (laws_toNodeS.f k a0) (laws_toNodeS.f (k + 1) a0) := by
  intro a0 k
  have ih0 := laws_toNodeS.mono_l k
  unfold laws_toNodeS.f
  repeat' first
      | (with_reducible exact ih0 _ _ _)
      | (with_reducible exact LeO.refl _)
      | (with_reducible exact LeO.none _)
      | (with_reducible refine LeO.ite ?_ ?_)
      | (with_reducible refine LeO.bind ?_ (fun _ => ?_))
      | exact LeO.none _
      | refine LeO.ite ?_ ?_
      | refine LeO.bind ?_ (fun _ => ?_)
set_option maxHeartbeats 8000000 in
set_option maxRecDepth 100000 in
theorem laws_toNodeS.calls (k : Nat) (A0 : Option Addr) (c0 : Nat) (l0 : List (S62)) (r : List (S55)) (w : World) (hr0 : Kd.C k62 w A0 l0.length l0) (hc0 : l0.length ≤ c0) (h : laws_toNodeS.f k l0 = some r) :
    Calls Tryd.prog 16 #[.slice A0 l0.length c0] w fun e w' => ∃ v0_ : Value, e = .returned (v0_) ∧ Kd.R k55 55 w' w.heap.size (fun _ => True) v0_ r ∧ Below w.heap.size w w' := by
  have hu62 := Tryd.underlying62
  have hu55 := Tryd.underlying55
  have HR0 := Ad_.mk hr0
  have HC0 := Ad_.mk hc0
  clear hr0 hc0
  have HB := Ad_.mk (Below.refl w.heap.size w)
  have H := h
  unfold laws_toNodeS.f at H
  clear h
  by_cases c2 : 0 ≤ (l0.length : Int)
  rotate_left
  ·
   rw [if_neg c2] at H
   exact absurd H (by simp)
  rw [if_pos c2] at H
  have c2b0 := eq_true c2
  have c2b1 := decide_eq_true c2
  clear c2
  by_cases c3 : ((l0.length : Int) : Int).toNat ≤ 3909374676536
  rotate_left
  ·
   rw [if_neg c3] at H
   exact absurd H (by simp)
  rw [if_pos c3] at H
  have c3b0 := eq_true c3
  have c3b1 := decide_eq_true c3
  clear c3
  obtain ⟨y188, hy188⟩ : ∃ y_ : List (S55), y_ = (List.replicate ((l0.length : Int) : Int).toNat z55) := ⟨_, rfl⟩
  replace H : (laws_toNodeS.l0 k l0 y188 0) = some r := by first | (rw [hy188]; with_reducible exact H) | (have H2_ := (Option.bind_some _ _).symm.trans H; rw [hy188]; with_reducible exact H2_) | (have H2_ := (Option.bind_some _ _).symm.trans H; with_reducible exact H2_) | with_reducible exact H | (rw [hy188]; exact H) | exact H
  have Ny188 := Ad_.mk hy188
  clear hy188
  have H' := Ad_.mk H
  clear H
  go_enter Tryd.func16, Tryd.ntmps16
  go_wp2_with (first | ((with_reducible refine gD_ (N := 7) rfl ?_); refine Kd.R_make k55 _ 55 rfl (N := 7) rfl 25 _ _ rfl (l0.length : Int) rfl rfl Tryd.underlying25 (.agg #[(.int .i64 0), (.int .i64 0), (.int .i64 0), (.int .i64 0), (.int .i64 0), (.string ⟨#[]⟩), (.string ⟨#[]⟩)]) 72 info55 rfl (by decide) (by omega) z55 (ok := fun _ => True) (okp := fun _ => True) (k55_mkM _ _ _ z55 ) (fun _ hk => hk) trivial (od_) (Nat.le_trans (Nat.mul_le_mul_right _ (od_ : (l0.length : Int).toNat ≤ 3909374676536)) (by omega)) (Below.refl _ _) (Nat.le_refl _) ?_; intro v189 w4 ho5 hb hg_ hnew_; clear hg_ hnew_; (first | rw [← Ny188.out] at ho5 | (simp only [Int.reduceToNat] at ho5; rw [← Ny188.out] at ho5)); have n0_ := Ad_.mk (Kd.R_lower ho5 (bZ_ (by repeat (with_reducible first | exact HB.out | apply bA_ | apply bN_ | apply b1_)))); have n1_ := Ad_.mk (bP_ (by repeat (with_reducible first | exact HB.out | apply bA_ | apply bN_ | apply b1_)) hb); clear HB; have HO190 := n0_; have HB := n1_; clear n0_ n1_; clear hb ho5))
  go_loopg [4] k (fun kq v4 w' => ∃ (x3_1 : List (S55)) (x4_1 : Int), v4 = .int .i64 x4_1 ∧ Ad_ (laws_toNodeS.l0 kq l0 x3_1 x4_1 = some r) ∧ Ad_ (kq ≤ k) ∧ Ad_ (Kd.R k55 55 w' w.heap.size (fun _ => True) v189 x3_1) ∧ Ad_ (Below w.heap.size w w'))
  case atStart => exact ⟨(y188), (0), fs_, H', ⟨Nat.le_refl _⟩, ⟨by (with_reducible repeat (first | apply Kd.R_alloc | apply Kd.R_drewN | apply Kd.R_drew)); exact HO190.out⟩, ⟨by repeat (with_reducible first | exact HB.out | apply bA_ | apply bN_ | apply b1_)⟩⟩
  case round =>
    clear H'
    try clear c2b0 c2b1
    try clear p2
    try clear c3b0 c3b1
    obtain ⟨x3_1, x4_1, rfl, HA, HK1, HO_3, HB⟩ := hrel
    cases gk with
    | zero => exact absurd HA.out (by simp [laws_toNodeS.l0])
    | succ k1 =>
      have H := HA.out
      clear HA
      simp only [laws_toNodeS.l0] at H
      by_cases c6 : x4_1 < (l0.length : Int)
      rotate_left
      ·
       rw [if_neg c6] at H
       have c6b0 := decide_eq_false c6
       clear c6
       obtain rfl := Option.some.inj H
       go_wp2
       go_ret
       exact ⟨_, by first | rfl | (simp [errW_none, errW_some] <;> rfl) | (simp [*, errW_none, errW_some] <;> rfl), by (with_reducible repeat (first | apply Kd.R_alloc | apply Kd.R_drewN | apply Kd.R_drew)); exact HO_3.out, by repeat (with_reducible first | exact HB.out | apply bA_ | apply bN_ | apply b1_)⟩
      rw [if_pos c6] at H
      have c6b0 := decide_eq_true c6
      clear c6
      by_cases c7 : 0 ≤ x4_1
      rotate_left
      ·
       rw [if_neg c7] at H
       exact absurd H (by simp)
      rw [if_pos c7] at H
      have c7b0 := decide_eq_true c7
      clear c7
      replace H := Option.bind_eq_some_iff.mp H
      obtain ⟨⟨t192, t193, t194, t195, t196, t197, t198⟩, A80, H⟩ := H
      try dsimp only at H
      have A8 := Ad_.mk A80
      clear A80
      by_cases c9 : x4_1 < (x3_1.length : Int)
      rotate_left
      ·
       rw [if_neg c9] at H
       exact absurd H (by simp)
      rw [if_pos c9] at H
      have c9b0 := decide_eq_true c9
      clear c9
      obtain ⟨y199, hy199⟩ : ∃ y_ : List (S55), y_ = (x3_1.set (x4_1 : Int).toNat (⟨t192, t193, t194, t195, t196, t197, t198⟩ : S55)) := ⟨_, rfl⟩
      replace H : (laws_toNodeS.l0 k1 l0 y199 (wrap64 (x4_1 + 1))) = some r := by first | (rw [hy199]; with_reducible exact H) | (have H2_ := (Option.bind_some _ _).symm.trans H; rw [hy199]; with_reducible exact H2_) | (have H2_ := (Option.bind_some _ _).symm.trans H; with_reducible exact H2_) | with_reducible exact H | (rw [hy199]; exact H) | exact H
      have Ny199 := Ad_.mk hy199
      clear hy199
      have H' := Ad_.mk H
      clear H
      have p191 : 0 ≤ (x4_1 : Int) := od_
      have q191 : x4_1 < (l0.length : Int) := od_
      obtain ⟨ad191, e191, hx191_0, hx191_1, hx191_2, hx191_3, hx191_4, hx191_5, hx191_6⟩ := at_T62 HR0.out x4_1 p191 q191
      cases e191
      replace hx191_0 := pB_ HB.out hx191_0
      replace hx191_1 := pB_ HB.out hx191_1
      replace hx191_2 := pB_ HB.out hx191_2
      replace hx191_3 := pB_ HB.out hx191_3
      replace hx191_4 := pB_ HB.out hx191_4
      replace hx191_5 := pB_ HB.out hx191_5
      replace hx191_6 := pB_ HB.out hx191_6
      replace p191 := eq_true p191
      replace q191 := eq_true q191
      go_wp2_with (first | ((with_reducible refine gC_ (f := 64) rfl ?_); refine gM_ (some 20) rfl rfl Tryd.func64 (by kernel_rfl) rfl #[.agg #[.int .i64 ((rd_T62 l0 x4_1).f0), .int .i64 ((rd_T62 l0 x4_1).f1), .int .i64 ((rd_T62 l0 x4_1).f2), .int .i64 ((rd_T62 l0 x4_1).f3), .int .i64 ((rd_T62 l0 x4_1).f4), .string ((rd_T62 l0 x4_1).f5), .string ((rd_T62 l0 x4_1).f6)]] rfl ?_; (with_reducible refine (laws_toNode.calls ((rd_T62 l0 x4_1).f0) ((rd_T62 l0 x4_1).f1) ((rd_T62 l0 x4_1).f2) ((rd_T62 l0 x4_1).f3) ((rd_T62 l0 x4_1).f4) ((rd_T62 l0 x4_1).f5) ((rd_T62 l0 x4_1).f6) t192 t193 t194 t195 t196 t197 t198 _ A8.out).mono ?_); rintro e w11 ⟨rfl, hb⟩; refine ⟨_, rfl, ?_⟩; have n0_ := Ad_.mk (Kd.R_below (by (with_reducible repeat (first | apply Kd.R_alloc | apply Kd.R_drewN | apply Kd.R_drew)); exact HO_3.out) hb); have n1_ := Ad_.mk (bP_ (by repeat (with_reducible first | exact HB.out | apply bA_ | apply bN_ | apply b1_)) hb); clear HO_3; clear HB; have HO_3 := n0_; have HB := n1_; clear n0_ n1_; (try clear hb); (try clear hb2); (try clear hk); (try clear hi); have p10 : 0 ≤ (x4_1 : Int) := od_; have q10 : (x4_1 : Int) < ((x3_1.length : Int) : Int) := od_; obtain ⟨go10, co10, eo10, gb10, gl10, cl10, HG10⟩ := Kd.R_form HO_3.out (by omega); (first | cases eo10 | (injection eo10 with ea_ en_ ec_; (first | subst ea_ | (injection ea_ with ea_; subst ea_)); subst ec_; clear en_)); have GB10 := Ad_.mk gb10; have GG10 := Ad_.mk HG10; clear gb10 gl10 HG10; obtain ⟨ce10, hcl10, hM10, hcc10, hfr10⟩ := Kd.R_elem HO_3.out z55 (x4_1 : Int) p10 q10; obtain rfl := k55_openM hM10; have hx10_0 : w11.cell? ⟨go10, (x4_1 : Int).toNat * 7, none⟩ = some (.int .i64 ((rd_T55 x3_1 x4_1).f0)) := hcc10 0 _ rfl; have hx10_1 : w11.cell? ⟨go10, (x4_1 : Int).toNat * 7 + 1, none⟩ = some (.int .i64 ((rd_T55 x3_1 x4_1).f1)) := hcc10 1 _ rfl; have hx10_2 : w11.cell? ⟨go10, (x4_1 : Int).toNat * 7 + 2, none⟩ = some (.int .i64 ((rd_T55 x3_1 x4_1).f2)) := hcc10 2 _ rfl; have hx10_3 : w11.cell? ⟨go10, (x4_1 : Int).toNat * 7 + 3, none⟩ = some (.int .i64 ((rd_T55 x3_1 x4_1).f3)) := hcc10 3 _ rfl; have hx10_4 : w11.cell? ⟨go10, (x4_1 : Int).toNat * 7 + 4, none⟩ = some (.int .i64 ((rd_T55 x3_1 x4_1).f4)) := hcc10 4 _ rfl; have hx10_5 : w11.cell? ⟨go10, (x4_1 : Int).toNat * 7 + 5, none⟩ = some (.string ((rd_T55 x3_1 x4_1).f5)) := hcc10 5 _ rfl; have hx10_6 : w11.cell? ⟨go10, (x4_1 : Int).toNat * 7 + 6, none⟩ = some (.string ((rd_T55 x3_1 x4_1).f6)) := hcc10 6 _ rfl; have hf10_0 : w11.frozen? ⟨go10, (x4_1 : Int).toNat * 7, none⟩ = false := hfr10 0; have hf10_1 : w11.frozen? ⟨go10, (x4_1 : Int).toNat * 7 + 1, none⟩ = false := hfr10 1; have hf10_2 : w11.frozen? ⟨go10, (x4_1 : Int).toNat * 7 + 2, none⟩ = false := hfr10 2; have hf10_3 : w11.frozen? ⟨go10, (x4_1 : Int).toNat * 7 + 3, none⟩ = false := hfr10 3; have hf10_4 : w11.frozen? ⟨go10, (x4_1 : Int).toNat * 7 + 4, none⟩ = false := hfr10 4; have hf10_5 : w11.frozen? ⟨go10, (x4_1 : Int).toNat * 7 + 5, none⟩ = false := hfr10 5; have hf10_6 : w11.frozen? ⟨go10, (x4_1 : Int).toNat * 7 + 6, none⟩ = false := hfr10 6; clear hcl10 hcc10 hfr10 hM10; replace p10 := eq_true p10; replace q10 := eq_true q10; have HX12 := Ad_.mk (show Kd.R k55 55 w11 w.heap.size (fun _ => True) (.slice (some ⟨go10, 0, none⟩) x3_1.length co10) x3_1 from (by (with_reducible repeat (first | apply Kd.R_alloc | apply Kd.R_drewN | apply Kd.R_drew)); exact HO_3.out)); obtain ⟨ce12, hcl12, hM12, hcc12, hfr12⟩ := Kd.R_elem HX12.out z55 (x4_1 : Int) (od_) (by have h_ : (x4_1 : Int) < ((x3_1.length : Int) : Int) := od_; first | exact h_ | (have e_ := (Kd.R_reads' HO_3.out).1; omega) | simpa using h_); obtain rfl := k55_openM hM12; have HP12 := Kd.R_seg HX12.out (x4_1 : Int) (od_) (by have h_ : (x4_1 : Int) < ((x3_1.length : Int) : Int) := od_; first | exact h_ | (have e_ := (Kd.R_reads' HO_3.out).1; omega) | simpa using h_) (seg := [.int .i64 t192, .int .i64 t193, .int .i64 t194, .int .i64 t195, .int .i64 t196, .string t197, .string t198]) (j := 0) hcl12 hcc12 (show 7 ≤ 7 from by decide) (x' := (⟨t192, t193, t194, t195, t196, t197, t198⟩ : S55)) (k55_mkM _ _ _ (⟨t192, t193, t194, t195, t196, t197, t198⟩ : S55) ) (fun _ hk => hk); have hx12_0 := hcc12 0 _ rfl; (try simp only [show (k55).sz = 7 from rfl, Nat.mul_one, Nat.add_zero] at hx12_0); have hf12_0 := hfr12 0; (try simp only [show (k55).sz = 7 from rfl, Nat.mul_one, Nat.add_zero] at hf12_0); have hx12_1 := hcc12 1 _ rfl; (try simp only [show (k55).sz = 7 from rfl, Nat.mul_one, Nat.add_zero] at hx12_1); have hf12_1 := hfr12 1; (try simp only [show (k55).sz = 7 from rfl, Nat.mul_one, Nat.add_zero] at hf12_1); have hx12_2 := hcc12 2 _ rfl; (try simp only [show (k55).sz = 7 from rfl, Nat.mul_one, Nat.add_zero] at hx12_2); have hf12_2 := hfr12 2; (try simp only [show (k55).sz = 7 from rfl, Nat.mul_one, Nat.add_zero] at hf12_2); have hx12_3 := hcc12 3 _ rfl; (try simp only [show (k55).sz = 7 from rfl, Nat.mul_one, Nat.add_zero] at hx12_3); have hf12_3 := hfr12 3; (try simp only [show (k55).sz = 7 from rfl, Nat.mul_one, Nat.add_zero] at hf12_3); have hx12_4 := hcc12 4 _ rfl; (try simp only [show (k55).sz = 7 from rfl, Nat.mul_one, Nat.add_zero] at hx12_4); have hf12_4 := hfr12 4; (try simp only [show (k55).sz = 7 from rfl, Nat.mul_one, Nat.add_zero] at hf12_4); have hx12_5 := hcc12 5 _ rfl; (try simp only [show (k55).sz = 7 from rfl, Nat.mul_one, Nat.add_zero] at hx12_5); have hf12_5 := hfr12 5; (try simp only [show (k55).sz = 7 from rfl, Nat.mul_one, Nat.add_zero] at hf12_5); have hx12_6 := hcc12 6 _ rfl; (try simp only [show (k55).sz = 7 from rfl, Nat.mul_one, Nat.add_zero] at hx12_6); have hf12_6 := hfr12 6; (try simp only [show (k55).sz = 7 from rfl, Nat.mul_one, Nat.add_zero] at hf12_6); clear hcl12 hcc12 hfr12 hM12) | ((with_reducible refine gate_store (t := 55) (p := 21) rfl ?_); refine store_event (t := 55) (p := 21) (v := ?vo_w13) (w1 := (((((((w11.setCell ⟨go10, (x4_1 : Int).toNat * 7, none⟩ (.int .i64 t192)).setCell ⟨go10, (x4_1 : Int).toNat * 7 + 1, none⟩ (.int .i64 t193)).setCell ⟨go10, (x4_1 : Int).toNat * 7 + 2, none⟩ (.int .i64 t194)).setCell ⟨go10, (x4_1 : Int).toNat * 7 + 3, none⟩ (.int .i64 t195)).setCell ⟨go10, (x4_1 : Int).toNat * 7 + 4, none⟩ (.int .i64 t196)).setCell ⟨go10, (x4_1 : Int).toNat * 7 + 5, none⟩ (.string t197)).setCell ⟨go10, (x4_1 : Int).toNat * 7 + 6, none⟩ (.string t198))) ?hg ?ho ?hn ?hr ?_; (case ho => rfl); (case hg => rfl); (case hn => rfl); (case hr => first | (go_simp; done) | (go_simp; rfl)); intro w13 hw; have hg : w11.grownBy w13 (some go10) := (by rw [hw]; exact HP12.2); have hp_ : Kd.R k55 55 w13 w.heap.size (fun _ => True) (.slice (some ⟨go10, 0, none⟩) x3_1.length co10) y199 := (by rw [hw, Ny199.out]; exact HP12.1); clear HP12; have n0_ := Ad_.mk (hp_); have n1_ := Ad_.mk ((by rw [hw]; exact bS_ (bS_ (bS_ (bS_ (bS_ (bS_ (bS_ (HB.out) GB10.out) GB10.out) GB10.out) GB10.out) GB10.out) GB10.out) GB10.out : Below w.heap.size w w13)); clear HO_3; clear HB; have HO_3 := n0_; have HB := n1_; clear n0_ n1_; clear hg hw hp_))
      go_roundg k1
      case measure => have := HK1.out; omega
      case rel => exact ⟨(y199), (wrap64 (x4_1 + 1)), fs_, H', ⟨by have := HK1.out; omega⟩, ⟨by (with_reducible repeat (first | apply Kd.R_alloc | apply Kd.R_drewN | apply Kd.R_drew)); exact HO_3.out⟩, ⟨by repeat (with_reducible first | exact HB.out | apply bA_ | apply bN_ | apply b1_)⟩⟩
end Go.Proofs.YtfmlamheflbgdaaDoor.PAll
end
section
namespace Go.Proofs.YtfmlamheflbgdaaDoor.PAll
open Go.RowKit Go.Proofs.YtfmlamheflbgdaaDoorW.PrintWords Go.Proofs.YtfmlamheflbgdaaDoorW.PrintLast Go.Proofs.YtfmlamheflbgdaaDoorW.PrintMore
attribute [local go_sem] max2_int min2_int max_two min_two max_three min_three max_four min_four
set_option linter.unusedVariables false
set_option linter.unusedSimpArgs false
mutual
def impl_Arity.j0 : Nat → Int → Bool → Option (Int)
  | 0, _, _ => none
  | k + 1, x3, x4 => if x4 = true then (some 1) else (if x3 = 4 then (impl_Arity.j1 k x3 (x3 == 4)) else (if x3 = 5 then (impl_Arity.j1 k x3 (x3 == 5)) else (if x3 = 6 then (impl_Arity.j1 k x3 (x3 == 6)) else (if x3 = 8 then (impl_Arity.j1 k x3 (x3 == 8)) else (if x3 = 9 then (impl_Arity.j1 k x3 (x3 == 9)) else (if x3 = 13 then (impl_Arity.j1 k x3 (x3 == 13)) else (if x3 = 17 then (impl_Arity.j1 k x3 (x3 == 17)) else (impl_Arity.j1 k x3 (x3 == 19)))))))))
def impl_Arity.j1 : Nat → Int → Bool → Option (Int)
  | 0, _, _ => none
  | k + 1, x3, x11 => if x11 = true then (some 2) else (if x3 = 7 then (some 3) else (if x3 = 14 then (some 3) else (some 0)))
end
def impl_Arity.f (k : Nat) (a0 : Int) : Option (Int) := if a0 = 3 then (impl_Arity.j0 k a0 (a0 == 3)) else (if a0 = 10 then (impl_Arity.j0 k a0 (a0 == 10)) else (if a0 = 11 then (impl_Arity.j0 k a0 (a0 == 11)) else (if a0 = 15 then (impl_Arity.j0 k a0 (a0 == 15)) else (if a0 = 16 then (impl_Arity.j0 k a0 (a0 == 16)) else (impl_Arity.j0 k a0 (a0 == 18))))))
theorem impl_Arity.mono_l : ∀ k, (∀ y0 y1, LeO (impl_Arity.j0 k y0 y1) (impl_Arity.j0 (k + 1) y0 y1)) ∧ (∀ y0 y1, LeO (impl_Arity.j1 k y0 y1) (impl_Arity.j1 (k + 1) y0 y1))
  | 0 => ⟨fun _ _ r h => by simp [impl_Arity.j0] at h, fun _ _ r h => by simp [impl_Arity.j1] at h⟩
  | k + 1 => by
    obtain ⟨ih0, ih1⟩ := impl_Arity.mono_l k
    refine ⟨?_, ?_⟩
    (intro y0 y1; unfold impl_Arity.j0; rotate_left)
    (intro y0 y1; unfold impl_Arity.j1; rotate_left)
    all_goals
      repeat' first
      | (with_reducible exact ih0 _ _)
      | (with_reducible exact ih1 _ _)
      | (with_reducible exact LeO.refl _)
      | (with_reducible exact LeO.none _)
      | (with_reducible refine LeO.ite ?_ ?_)
      | (with_reducible refine LeO.bind ?_ (fun _ => ?_))
      | exact LeO.none _
      | refine LeO.ite ?_ ?_
      | refine LeO.bind ?_ (fun _ => ?_)
theorem impl_Arity.mono : ∀ a0 k, LeO (impl_Arity.f k a0) (impl_Arity.f (k + 1) a0) := by
  intro a0 k
  obtain ⟨ih0, ih1⟩ := impl_Arity.mono_l k
  unfold impl_Arity.f
  repeat' first
      | (with_reducible exact ih0 _ _)
      | (with_reducible exact ih1 _ _)
      | (with_reducible exact LeO.refl _)
      | (with_reducible exact LeO.none _)
      | (with_reducible refine LeO.ite ?_ ?_)
      | (with_reducible refine LeO.bind ?_ (fun _ => ?_))
      | exact LeO.none _
      | refine LeO.ite ?_ ?_
      | refine LeO.bind ?_ (fun _ => ?_)
set_option maxHeartbeats 8000000 in
set_option maxRecDepth 100000 in
theorem impl_Arity.calls (k : Nat) (a0 : Int) (r : Int) (w : World) (h : impl_Arity.f k a0 = some r) :
    Calls Tryd.prog 98 #[.int .i64 a0] w fun e w' => e = .returned (.int .i64 r) ∧ Drawn0 w w' := by
  have H := h
  unfold impl_Arity.f at H
  clear h
  have HC2 := Ad_.mk H
  clear H
  go_enter Tryd.func98, Tryd.ntmps98
  go_upto_if 4 with (fail)
  go_cut [4] (fun v4 wc => ∃ (kq : Nat) (x4_1 : Bool), v4 = .bool x4_1 ∧ Ad_ (impl_Arity.j0 kq a0 x4_1 = some r) ∧ Ad_ (kq ≤ k) ∧ Drawn0 w wc)
  case first =>
    have H := HC2.out
    clear HC2
    by_cases c3 : a0 = 3
    ·
     rw [if_pos c3] at H
     have c3b0 : (a0 == 3) = true := beq_iff_eq.mpr c3
     have c3b1 : (a0 != 3) = false := bne_eq_false_iff_eq.mpr c3
     clear c3
     (first | rw [c3b0] | (simp only [i64_w, i32_w]; rw [c3b0]) | skip)
     have H' := Ad_.mk H
     clear H
     go_wp2
     go_meet
     case rel => exact ⟨_, ((a0 == 3)), fs_, H', ⟨by first | omega | exact Nat.le_refl _⟩, by repeat (first | exact Drawn0.refl _ | apply Drawn0.step)⟩
    rw [if_neg c3] at H
    have c3b0 : (a0 == 3) = false := beq_eq_false_iff_ne.mpr c3
    have c3b1 : (a0 != 3) = true := bne_iff_ne.mpr c3
    (first | rw [c3b0] | (simp only [i64_w, i32_w]; rw [c3b0]) | skip)
    by_cases c4 : a0 = 10
    ·
     rw [if_pos c4] at H
     have c4b0 : (a0 == 10) = true := beq_iff_eq.mpr c4
     have c4b1 : (a0 != 10) = false := bne_eq_false_iff_eq.mpr c4
     clear c4
     have H' := Ad_.mk H
     clear H
     go_wp2
     go_meet
     case rel => exact ⟨_, ((a0 == 10)), fs_, H', ⟨by first | omega | exact Nat.le_refl _⟩, by repeat (first | exact Drawn0.refl _ | apply Drawn0.step)⟩
    rw [if_neg c4] at H
    have c4b0 : (a0 == 10) = false := beq_eq_false_iff_ne.mpr c4
    have c4b1 : (a0 != 10) = true := bne_iff_ne.mpr c4
    by_cases c5 : a0 = 11
    ·
     rw [if_pos c5] at H
     have c5b0 : (a0 == 11) = true := beq_iff_eq.mpr c5
     have c5b1 : (a0 != 11) = false := bne_eq_false_iff_eq.mpr c5
     clear c5
     have H' := Ad_.mk H
     clear H
     go_wp2
     go_meet
     case rel => exact ⟨_, ((a0 == 11)), fs_, H', ⟨by first | omega | exact Nat.le_refl _⟩, by repeat (first | exact Drawn0.refl _ | apply Drawn0.step)⟩
    rw [if_neg c5] at H
    have c5b0 : (a0 == 11) = false := beq_eq_false_iff_ne.mpr c5
    have c5b1 : (a0 != 11) = true := bne_iff_ne.mpr c5
    by_cases c6 : a0 = 15
    ·
     rw [if_pos c6] at H
     have c6b0 : (a0 == 15) = true := beq_iff_eq.mpr c6
     have c6b1 : (a0 != 15) = false := bne_eq_false_iff_eq.mpr c6
     clear c6
     have H' := Ad_.mk H
     clear H
     go_wp2
     go_meet
     case rel => exact ⟨_, ((a0 == 15)), fs_, H', ⟨by first | omega | exact Nat.le_refl _⟩, by repeat (first | exact Drawn0.refl _ | apply Drawn0.step)⟩
    rw [if_neg c6] at H
    have c6b0 : (a0 == 15) = false := beq_eq_false_iff_ne.mpr c6
    have c6b1 : (a0 != 15) = true := bne_iff_ne.mpr c6
    by_cases c7 : a0 = 16
    rotate_left
    ·
     rw [if_neg c7] at H
     have c7b0 : (a0 == 16) = false := beq_eq_false_iff_ne.mpr c7
     have c7b1 : (a0 != 16) = true := bne_iff_ne.mpr c7
     have H' := Ad_.mk H
     clear H
     go_wp2
     go_meet
     case rel => exact ⟨_, ((a0 == 18)), fs_, H', ⟨by first | omega | exact Nat.le_refl _⟩, by repeat (first | exact Drawn0.refl _ | apply Drawn0.step)⟩
    rw [if_pos c7] at H
    have c7b0 : (a0 == 16) = true := beq_iff_eq.mpr c7
    have c7b1 : (a0 != 16) = false := bne_eq_false_iff_eq.mpr c7
    clear c7
    have H' := Ad_.mk H
    clear H
    go_wp2
    go_meet
    case rel => exact ⟨_, ((a0 == 16)), fs_, H', ⟨by first | omega | exact Nat.le_refl _⟩, by repeat (first | exact Drawn0.refl _ | apply Drawn0.step)⟩
  case rest =>
    clear HC2
    try clear p2
    try clear c3b0 c3b1
    try clear c4b0 c4b1
    try clear c5b0 c5b1
    try clear c6b0 c6b1
    try clear c7b0 c7b1
    obtain ⟨kq, x4_1, rfl, HA, HJ1, ⟨mc1, rfl⟩⟩ := hcut
    cases kq with
    | zero => exact absurd HA.out (by simp [impl_Arity.j0])
    | succ kj1 =>
      have H := HA.out
      clear HA
      simp only [impl_Arity.j0] at H
      by_cases c8 : x4_1 = true
      ·
       subst c8
       have H1 : (some 1) = some r := by rw [if_pos rfl] at H; exact H
       clear H
       have H := H1
       clear H1
       obtain rfl := Option.some.inj H
       go_wp2
       go_ret
       exact ⟨by first | rfl | (simp; done) | (simp [*]; done), by repeat (first | exact Drawn0.refl _ | apply Drawn0.step)⟩
      replace c8 := Bool.eq_false_iff.mpr c8
      subst c8
      have H1 : (if a0 = 4 then (impl_Arity.j1 kj1 a0 (a0 == 4)) else (if a0 = 5 then (impl_Arity.j1 kj1 a0 (a0 == 5)) else (if a0 = 6 then (impl_Arity.j1 kj1 a0 (a0 == 6)) else (if a0 = 8 then (impl_Arity.j1 kj1 a0 (a0 == 8)) else (if a0 = 9 then (impl_Arity.j1 kj1 a0 (a0 == 9)) else (if a0 = 13 then (impl_Arity.j1 kj1 a0 (a0 == 13)) else (if a0 = 17 then (impl_Arity.j1 kj1 a0 (a0 == 17)) else (impl_Arity.j1 kj1 a0 (a0 == 19))))))))) = some r := by rw [if_neg (show ¬ (false = true) by decide)] at H; exact H
      clear H
      have H := H1
      clear H1
      have HC9 := Ad_.mk H
      clear H
      go_upto_if 11 with (fail)
      go_cut [11] (fun v11 wc => ∃ (kq : Nat) (x11_8 : Bool), v11 = .bool x11_8 ∧ Ad_ (impl_Arity.j1 kq a0 x11_8 = some r) ∧ Ad_ (kq ≤ kj1) ∧ Drawn0 w wc)
      case first =>
        have H := HC9.out
        clear HC9
        by_cases c10 : a0 = 4
        ·
         rw [if_pos c10] at H
         have c10b0 : (a0 == 4) = true := beq_iff_eq.mpr c10
         have c10b1 : (a0 != 4) = false := bne_eq_false_iff_eq.mpr c10
         clear c10
         (first | rw [c10b0] | (simp only [i64_w, i32_w]; rw [c10b0]) | skip)
         have H' := Ad_.mk H
         clear H
         go_wp2
         go_meet
         case rel => exact ⟨_, ((a0 == 4)), fs_, H', ⟨by have := HJ1.out; first | omega | exact Nat.le_refl _⟩, by repeat (first | exact Drawn0.refl _ | apply Drawn0.step)⟩
        rw [if_neg c10] at H
        have c10b0 : (a0 == 4) = false := beq_eq_false_iff_ne.mpr c10
        have c10b1 : (a0 != 4) = true := bne_iff_ne.mpr c10
        (first | rw [c10b0] | (simp only [i64_w, i32_w]; rw [c10b0]) | skip)
        by_cases c11 : a0 = 5
        ·
         rw [if_pos c11] at H
         have c11b0 : (a0 == 5) = true := beq_iff_eq.mpr c11
         have c11b1 : (a0 != 5) = false := bne_eq_false_iff_eq.mpr c11
         clear c11
         have H' := Ad_.mk H
         clear H
         go_wp2
         go_meet
         case rel => exact ⟨_, ((a0 == 5)), fs_, H', ⟨by have := HJ1.out; first | omega | exact Nat.le_refl _⟩, by repeat (first | exact Drawn0.refl _ | apply Drawn0.step)⟩
        rw [if_neg c11] at H
        have c11b0 : (a0 == 5) = false := beq_eq_false_iff_ne.mpr c11
        have c11b1 : (a0 != 5) = true := bne_iff_ne.mpr c11
        by_cases c12 : a0 = 6
        ·
         rw [if_pos c12] at H
         have c12b0 : (a0 == 6) = true := beq_iff_eq.mpr c12
         have c12b1 : (a0 != 6) = false := bne_eq_false_iff_eq.mpr c12
         clear c12
         have H' := Ad_.mk H
         clear H
         go_wp2
         go_meet
         case rel => exact ⟨_, ((a0 == 6)), fs_, H', ⟨by have := HJ1.out; first | omega | exact Nat.le_refl _⟩, by repeat (first | exact Drawn0.refl _ | apply Drawn0.step)⟩
        rw [if_neg c12] at H
        have c12b0 : (a0 == 6) = false := beq_eq_false_iff_ne.mpr c12
        have c12b1 : (a0 != 6) = true := bne_iff_ne.mpr c12
        by_cases c13 : a0 = 8
        ·
         rw [if_pos c13] at H
         have c13b0 : (a0 == 8) = true := beq_iff_eq.mpr c13
         have c13b1 : (a0 != 8) = false := bne_eq_false_iff_eq.mpr c13
         clear c13
         have H' := Ad_.mk H
         clear H
         go_wp2
         go_meet
         case rel => exact ⟨_, ((a0 == 8)), fs_, H', ⟨by have := HJ1.out; first | omega | exact Nat.le_refl _⟩, by repeat (first | exact Drawn0.refl _ | apply Drawn0.step)⟩
        rw [if_neg c13] at H
        have c13b0 : (a0 == 8) = false := beq_eq_false_iff_ne.mpr c13
        have c13b1 : (a0 != 8) = true := bne_iff_ne.mpr c13
        by_cases c14 : a0 = 9
        ·
         rw [if_pos c14] at H
         have c14b0 : (a0 == 9) = true := beq_iff_eq.mpr c14
         have c14b1 : (a0 != 9) = false := bne_eq_false_iff_eq.mpr c14
         clear c14
         have H' := Ad_.mk H
         clear H
         go_wp2
         go_meet
         case rel => exact ⟨_, ((a0 == 9)), fs_, H', ⟨by have := HJ1.out; first | omega | exact Nat.le_refl _⟩, by repeat (first | exact Drawn0.refl _ | apply Drawn0.step)⟩
        rw [if_neg c14] at H
        have c14b0 : (a0 == 9) = false := beq_eq_false_iff_ne.mpr c14
        have c14b1 : (a0 != 9) = true := bne_iff_ne.mpr c14
        by_cases c15 : a0 = 13
        ·
         rw [if_pos c15] at H
         have c15b0 : (a0 == 13) = true := beq_iff_eq.mpr c15
         have c15b1 : (a0 != 13) = false := bne_eq_false_iff_eq.mpr c15
         clear c15
         have H' := Ad_.mk H
         clear H
         go_wp2
         go_meet
         case rel => exact ⟨_, ((a0 == 13)), fs_, H', ⟨by have := HJ1.out; first | omega | exact Nat.le_refl _⟩, by repeat (first | exact Drawn0.refl _ | apply Drawn0.step)⟩
        rw [if_neg c15] at H
        have c15b0 : (a0 == 13) = false := beq_eq_false_iff_ne.mpr c15
        have c15b1 : (a0 != 13) = true := bne_iff_ne.mpr c15
        by_cases c16 : a0 = 17
        rotate_left
        ·
         rw [if_neg c16] at H
         have c16b0 : (a0 == 17) = false := beq_eq_false_iff_ne.mpr c16
         have c16b1 : (a0 != 17) = true := bne_iff_ne.mpr c16
         have H' := Ad_.mk H
         clear H
         go_wp2
         go_meet
         case rel => exact ⟨_, ((a0 == 19)), fs_, H', ⟨by have := HJ1.out; first | omega | exact Nat.le_refl _⟩, by repeat (first | exact Drawn0.refl _ | apply Drawn0.step)⟩
        rw [if_pos c16] at H
        have c16b0 : (a0 == 17) = true := beq_iff_eq.mpr c16
        have c16b1 : (a0 != 17) = false := bne_eq_false_iff_eq.mpr c16
        clear c16
        have H' := Ad_.mk H
        clear H
        go_wp2
        go_meet
        case rel => exact ⟨_, ((a0 == 17)), fs_, H', ⟨by have := HJ1.out; first | omega | exact Nat.le_refl _⟩, by repeat (first | exact Drawn0.refl _ | apply Drawn0.step)⟩
      case rest =>
        clear HC9
        try clear p2
        try clear c3b0 c3b1
        try clear c4b0 c4b1
        try clear c5b0 c5b1
        try clear c6b0 c6b1
        try clear c7b0 c7b1
        try clear c10b0 c10b1
        try clear c11b0 c11b1
        try clear c12b0 c12b1
        try clear c13b0 c13b1
        try clear c14b0 c14b1
        try clear c15b0 c15b1
        try clear c16b0 c16b1
        try clear p2
        obtain ⟨kq, x11_8, rfl, HA, HJ8, ⟨mc8, rfl⟩⟩ := hcut
        cases kq with
        | zero => exact absurd HA.out (by simp [impl_Arity.j1])
        | succ kj8 =>
          have H := HA.out
          clear HA
          simp only [impl_Arity.j1] at H
          by_cases c17 : x11_8 = true
          ·
           subst c17
           have H1 : (some 2) = some r := by rw [if_pos rfl] at H; exact H
           clear H
           have H := H1
           clear H1
           obtain rfl := Option.some.inj H
           go_wp2
           go_ret
           exact ⟨by first | rfl | (simp; done) | (simp [*]; done), by repeat (first | exact Drawn0.refl _ | apply Drawn0.step)⟩
          replace c17 := Bool.eq_false_iff.mpr c17
          subst c17
          have H1 : (if a0 = 7 then (some 3) else (if a0 = 14 then (some 3) else (some 0))) = some r := by rw [if_neg (show ¬ (false = true) by decide)] at H; exact H
          clear H
          have H := H1
          clear H1
          by_cases c18 : a0 = 7
          ·
           rw [if_pos c18] at H
           have c18b0 : (a0 == 7) = true := beq_iff_eq.mpr c18
           have c18b1 : (a0 != 7) = false := bne_eq_false_iff_eq.mpr c18
           clear c18
           obtain rfl := Option.some.inj H
           go_wp2
           go_ret
           exact ⟨by first | rfl | (simp; done) | (simp [*]; done), by repeat (first | exact Drawn0.refl _ | apply Drawn0.step)⟩
          rw [if_neg c18] at H
          have c18b0 : (a0 == 7) = false := beq_eq_false_iff_ne.mpr c18
          have c18b1 : (a0 != 7) = true := bne_iff_ne.mpr c18
          by_cases c19 : a0 = 14
          rotate_left
          ·
           rw [if_neg c19] at H
           have c19b0 : (a0 == 14) = false := beq_eq_false_iff_ne.mpr c19
           have c19b1 : (a0 != 14) = true := bne_iff_ne.mpr c19
           obtain rfl := Option.some.inj H
           go_wp2
           go_ret
           exact ⟨by first | rfl | (simp; done) | (simp [*]; done), by repeat (first | exact Drawn0.refl _ | apply Drawn0.step)⟩
          rw [if_pos c19] at H
          have c19b0 : (a0 == 14) = true := beq_iff_eq.mpr c19
          have c19b1 : (a0 != 14) = false := bne_eq_false_iff_eq.mpr c19
          clear c19
          obtain rfl := Option.some.inj H
          go_wp2
          go_ret
          exact ⟨by first | rfl | (simp; done) | (simp [*]; done), by repeat (first | exact Drawn0.refl _ | apply Drawn0.step)⟩
end Go.Proofs.YtfmlamheflbgdaaDoor.PAll
end
section
namespace Go.Proofs.YtfmlamheflbgdaaDoor.PAll
open Go.RowKit Go.Proofs.YtfmlamheflbgdaaDoorW.PrintWords Go.Proofs.YtfmlamheflbgdaaDoorW.PrintLast Go.Proofs.YtfmlamheflbgdaaDoorW.PrintMore
attribute [local go_sem] max2_int min2_int max_two min_two max_three min_three max_four min_four
set_option linter.unusedVariables false
set_option linter.unusedSimpArgs false
def impl_Kids.f (k : Nat) (a0_0 : Int) (a0_1 : Int) (a0_2 : Int) (a0_3 : Int) (a0_4 : Int) (a0_5 : ByteArray) (a0_6 : ByteArray) : Option (List Int) := (some (([a0_1, a0_2, a0_3] : List Int) : List Int)).bind fun y201 => ((impl_Arity.f k a0_0).bind fun t204 => ((impl_Arity.f k a0_0).bind fun t205 => (if 0 ≤ t204 then (if t204 ≤ t205 then (if t205 ≤ (y201.length : Int) then (some (y201.take (t204 : Int).toNat)) else (none)) else (none)) else (none))))
theorem impl_Kids.mono : ∀ a0 a1 a2 a3 a4 a5 a6 k, LeO (impl_Kids.f k a0 a1 a2 a3 a4 a5 a6) (impl_Kids.f (k + 1) a0 a1 a2 a3 a4 a5 a6) := by
  intro a0 a1 a2 a3 a4 a5 a6 k
  unfold impl_Kids.f
  repeat' first
      | (with_reducible exact impl_Arity.mono _ _)
      | (with_reducible exact LeO.refl _)
      | (with_reducible exact LeO.none _)
      | (with_reducible refine LeO.ite ?_ ?_)
      | (with_reducible refine LeO.bind ?_ (fun _ => ?_))
      | exact LeO.none _
      | refine LeO.ite ?_ ?_
      | refine LeO.bind ?_ (fun _ => ?_)
def impl_Kids.T1 : Bool × List (List Nat × List Nat) := (true, [([], []), ([0], [0]), ([], []), ([2], [2]), ([], []), ([4], [4]), ([1, 3, 5], [1, 3, 5]), ([], []), ([7], [7]), ([8], [8]), ([], []), ([10], [10]), ([11, 9], [11]), ([6, 9, 12], [6, 9, 12]), ([13, 12, 0, 1, 2, 3, 4, 5, 6, 7, 8, 9, 10, 11, 12, 13], [13])])
def impl_Kids.B1 : List Nat := [0, 1, 0, 4, 0, 16, 63, 0, 128, 384, 0, 1024, 3968, 8191, 16383]
theorem impl_Kids.tab1 : rtab .any (opsOf Tryd.f56 1) = impl_Kids.T1 := by kernel_rfl
theorem impl_Kids.bits1 : waitsOk impl_Kids.T1.2 impl_Kids.B1 = true := by kernel_rfl
set_option maxHeartbeats 8000000 in
set_option maxRecDepth 100000 in
theorem impl_Kids.calls (k : Nat) (a0_0 : Int) (a0_1 : Int) (a0_2 : Int) (a0_3 : Int) (a0_4 : Int) (a0_5 : ByteArray) (a0_6 : ByteArray) (r : List Int) (w : World) (h : impl_Kids.f k a0_0 a0_1 a0_2 a0_3 a0_4 a0_5 a0_6 = some r) :
    Calls Tryd.prog 56 #[.agg #[.int .i64 a0_0, .int .i64 a0_1, .int .i64 a0_2, .int .i64 a0_3, .int .i64 a0_4, .string a0_5, .string a0_6]] w fun e w' => ∃ v0_ : Value, e = .returned (v0_) ∧ Kd.V (Kd.int .i64) 3 w' w.heap.size (fun k_ => (w.heap.size ≤ k_)) v0_ r ∧ Below w.heap.size w w' := by
  have hu55 := Tryd.underlying55
  have HB := Ad_.mk (Below.refl w.heap.size w)
  have H := h
  unfold impl_Kids.f at H
  clear h
  obtain ⟨y201, hy201⟩ : ∃ y_ : List Int, y_ = (([a0_1, a0_2, a0_3] : List Int)) := ⟨_, rfl⟩
  replace H : ((impl_Arity.f k a0_0).bind fun t204 => ((impl_Arity.f k a0_0).bind fun t205 => (if 0 ≤ t204 then (if t204 ≤ t205 then (if t205 ≤ (y201.length : Int) then (some (y201.take (t204 : Int).toNat)) else (none)) else (none)) else (none)))) = some r := by first | (rw [hy201]; with_reducible exact H) | (have H2_ := (Option.bind_some _ _).symm.trans H; rw [hy201]; with_reducible exact H2_) | (have H2_ := (Option.bind_some _ _).symm.trans H; with_reducible exact H2_) | with_reducible exact H | (rw [hy201]; exact H) | exact H
  have Ny201 := Ad_.mk hy201
  clear hy201
  replace H := Option.bind_eq_some_iff.mp H
  obtain ⟨t204, A20, H⟩ := H
  try dsimp only at H
  have A2 := Ad_.mk A20
  clear A20
  replace H := Option.bind_eq_some_iff.mp H
  obtain ⟨t205, A30, H⟩ := H
  try dsimp only at H
  have A3 := Ad_.mk A30
  clear A30
  by_cases c4 : 0 ≤ t204
  rotate_left
  ·
   rw [if_neg c4] at H
   exact absurd H (by simp)
  rw [if_pos c4] at H
  have c4b0 := eq_true c4
  have c4b1 := decide_eq_true c4
  clear c4
  by_cases c5 : t204 ≤ t205
  rotate_left
  ·
   rw [if_neg c5] at H
   exact absurd H (by simp)
  rw [if_pos c5] at H
  have c5b0 := eq_true c5
  have c5b1 := decide_eq_true c5
  clear c5
  by_cases c6 : t205 ≤ (y201.length : Int)
  rotate_left
  ·
   rw [if_neg c6] at H
   exact absurd H (by simp)
  rw [if_pos c6] at H
  have c6b0 := eq_true c6
  have c6b1 := decide_eq_true c6
  clear c6
  obtain ⟨y206, hy206⟩ : ∃ y_ : List Int, y_ = (y201.take (t204 : Int).toNat) := ⟨_, rfl⟩
  replace H : (some y206) = some r := by first | (rw [hy206]; with_reducible exact H) | (have H2_ := (Option.bind_some _ _).symm.trans H; rw [hy206]; with_reducible exact H2_) | (have H2_ := (Option.bind_some _ _).symm.trans H; with_reducible exact H2_) | with_reducible exact H | (rw [hy206]; exact H) | exact H
  have Ny206 := Ad_.mk hy206
  clear hy206
  obtain rfl := Option.some.inj H
  go_enter Tryd.func56, Tryd.ntmps56
  try go_wp2_with (first | ((with_reducible refine gD_ (N := 1) rfl ?_); refine bE_ ?hg (N := 1) ?hd (cs := #[.int .i64 a0_0, .int .i64 a0_1, .int .i64 a0_2, .int .i64 a0_3, .int .i64 a0_4, .string a0_5, .string a0_6]) (t := 55) ?hr ?_; (case hd => rfl); (case hg => rfl); (case hr => first | (go_simp; done) | (go_simp; rfl)); intro gb200 hg w7 hbox hb; have n0_ := Ad_.mk (bP_ (by repeat (with_reducible first | exact HB.out | apply bA_ | apply bN_ | apply b1_)) hb); have n1_ := Ad_.mk (hbox); have n2_ := Ad_.mk ((by rw [hg]; exact (bZ_ (by repeat (with_reducible first | exact HB.out | apply bA_ | apply bN_ | apply b1_))) : w.heap.size ≤ gb200)); have n3_ := Ad_.mk ((by rw [hg]; exact (bZ_ (by repeat (with_reducible first | exact HB.out | apply bA_ | apply bN_ | apply b1_))) : w.heap.size ≤ gb200)); clear HB; have HB := n0_; have BK200 := n1_; have GW200 := n2_; have GE200 := n3_; clear n0_ n1_ n2_ n3_; clear hb hbox hg))
  have n0_ := Ad_.mk (k1_ BK200.out)
  have n1_ := Ad_.mk (b1_ HB.out)
  clear BK200
  clear HB
  have BK200 := n0_
  have HB := n1_
  clear n0_ n1_
  refine start_ (n := 15) (S := fun w' => w'.cell? ⟨gb200, 0, none⟩ = some (.int .i64 a0_0) ∧ w'.cell? ⟨gb200, 1, none⟩ = some (.int .i64 a0_1) ∧ w'.cell? ⟨gb200, 2, none⟩ = some (.int .i64 a0_2) ∧ w'.cell? ⟨gb200, 3, none⟩ = some (.int .i64 a0_3) ∧ w'.cell? ⟨gb200, 4, none⟩ = some (.int .i64 a0_4) ∧ w'.cell? ⟨gb200, 5, none⟩ = some (.string a0_5) ∧ w'.cell? ⟨gb200, 6, none⟩ = some (.string a0_6)) (ds := []) #[fb_,fb_,fb_,fb_,fb_,fb_,fb_,fb_,fb_,fb_,fb_,fb_,fb_,fb_,fb_] (by kernel_rfl) rfl rfl ⟨(kC_ BK200.out 0).trans rfl, (kC_ BK200.out 1).trans rfl, (kC_ BK200.out 2).trans rfl, (kC_ BK200.out 3).trans rfl, (kC_ BK200.out 4).trans rfl, (kC_ BK200.out 5).trans rfl, (kC_ BK200.out 6).trans rfl⟩ (fun hHeld => ?_); refine with_tabW impl_Kids.tab1 impl_Kids.bits1 (fun HT_ HW_ => ?_)
  generalize w7.drew = w8 at BK200 HB hHeld ⊢
  refine pure_ (i := 0) (N := some 3) (v := ?_) (a' := ?_) #[tb_,fb_,fb_,fb_,fb_,fb_,fb_,fb_,fb_,fb_,fb_,fb_,fb_,fb_,fb_] rfl rfl (any_of HT_.out (by kernel_rfl)) (fun _ _ _ h => h) (Or.inl ⟨by rfl, ?_⟩) ?_ ?_
  rotate_left
  ·
   intro w'
   go_simp
   with_reducible rfl
  rotate_left
  ·
   simp only [Act.put, List.setIfInBounds_toArray, List.set_cons_zero, List.set_cons_succ, i64_w, i32_w]
   rfl
  refine pure_ (i := 2) (N := some 5) (v := ?_) (a' := ?_) #[tb_,fb_,tb_,fb_,fb_,fb_,fb_,fb_,fb_,fb_,fb_,fb_,fb_,fb_,fb_] rfl rfl (any_of HT_.out (by kernel_rfl)) (fun _ _ _ h => h) (Or.inl ⟨by rfl, ?_⟩) ?_ ?_
  rotate_left
  ·
   intro w'
   go_simp
   with_reducible rfl
  rotate_left
  ·
   simp only [Act.put, List.setIfInBounds_toArray, List.set_cons_zero, List.set_cons_succ, i64_w, i32_w]
   rfl
  refine pure_ (i := 4) (N := some 7) (v := ?_) (a' := ?_) #[tb_,fb_,tb_,fb_,tb_,fb_,fb_,fb_,fb_,fb_,fb_,fb_,fb_,fb_,fb_] rfl rfl (any_of HT_.out (by kernel_rfl)) (fun _ _ _ h => h) (Or.inl ⟨by rfl, ?_⟩) ?_ ?_
  rotate_left
  ·
   intro w'
   go_simp
   with_reducible rfl
  rotate_left
  ·
   simp only [Act.put, List.setIfInBounds_toArray, List.set_cons_zero, List.set_cons_succ, i64_w, i32_w]
   rfl
  refine pure_ (i := 7) (N := some 10) (v := ?_) (a' := ?_) #[tb_,fb_,tb_,fb_,tb_,fb_,fb_,tb_,fb_,fb_,fb_,fb_,fb_,fb_,fb_] rfl rfl (any_of HT_.out (by kernel_rfl)) (fun _ _ _ h => h) (Or.inl ⟨by rfl, ?_⟩) ?_ ?_
  rotate_left
  ·
   intro w'
   go_simp
   with_reducible rfl
  rotate_left
  ·
   simp only [Act.put, List.setIfInBounds_toArray, List.set_cons_zero, List.set_cons_succ, i64_w, i32_w]
   rfl
  refine pure_ (i := 10) (N := some 13) (v := ?_) (a' := ?_) #[tb_,fb_,tb_,fb_,tb_,fb_,fb_,tb_,fb_,fb_,tb_,fb_,fb_,fb_,fb_] rfl rfl (any_of HT_.out (by kernel_rfl)) (fun _ _ _ h => h) (Or.inl ⟨by rfl, ?_⟩) ?_ ?_
  rotate_left
  ·
   intro w'
   go_simp
   with_reducible rfl
  rotate_left
  ·
   simp only [Act.put, List.setIfInBounds_toArray, List.set_cons_zero, List.set_cons_succ, i64_w, i32_w]
   rfl
  refine take_ (i := 1) (N := some 4) (v := ?_) (a' := ?_) #[tb_,tb_,tb_,fb_,tb_,fb_,fb_,tb_,fb_,fb_,tb_,fb_,fb_,fb_,fb_] rfl rfl (take_ofW HT_.out HW_.out (by kernel_rfl)) (fun _ _ _ h => h) (Or.inl ⟨by rfl, ?_⟩) hHeld ?_ ?_
  rotate_left
  ·
   rintro w' ⟨s0, s1, s2, s3, s4, s5, s6⟩
   go_simp
   with_reducible rfl
  rotate_left
  ·
   simp only [Act.put, List.setIfInBounds_toArray, List.set_cons_zero, List.set_cons_succ, i64_w, i32_w]
   rfl
  refine take_ (i := 3) (N := some 6) (v := ?_) (a' := ?_) #[tb_,tb_,tb_,tb_,tb_,fb_,fb_,tb_,fb_,fb_,tb_,fb_,fb_,fb_,fb_] rfl rfl (take_ofW HT_.out HW_.out (by kernel_rfl)) (fun _ _ _ h => h) (Or.inl ⟨by rfl, ?_⟩) hHeld ?_ ?_
  rotate_left
  ·
   rintro w' ⟨s0, s1, s2, s3, s4, s5, s6⟩
   go_simp
   with_reducible rfl
  rotate_left
  ·
   simp only [Act.put, List.setIfInBounds_toArray, List.set_cons_zero, List.set_cons_succ, i64_w, i32_w]
   rfl
  refine take_ (i := 5) (N := some 8) (v := ?_) (a' := ?_) #[tb_,tb_,tb_,tb_,tb_,tb_,fb_,tb_,fb_,fb_,tb_,fb_,fb_,fb_,fb_] rfl rfl (take_ofW HT_.out HW_.out (by kernel_rfl)) (fun _ _ _ h => h) (Or.inl ⟨by rfl, ?_⟩) hHeld ?_ ?_
  rotate_left
  ·
   rintro w' ⟨s0, s1, s2, s3, s4, s5, s6⟩
   go_simp
   with_reducible rfl
  rotate_left
  ·
   simp only [Act.put, List.setIfInBounds_toArray, List.set_cons_zero, List.set_cons_succ, i64_w, i32_w]
   rfl
  refine take_ (i := 8) (N := some 11) (v := ?_) (a' := ?_) #[tb_,tb_,tb_,tb_,tb_,tb_,fb_,tb_,tb_,fb_,tb_,fb_,fb_,fb_,fb_] rfl rfl (take_ofW HT_.out HW_.out (by kernel_rfl)) (fun _ _ _ h => h) (Or.inl ⟨by rfl, ?_⟩) hHeld ?_ ?_
  rotate_left
  ·
   rintro w' ⟨s0, s1, s2, s3, s4, s5, s6⟩
   go_simp
   with_reducible rfl
  rotate_left
  ·
   simp only [Act.put, List.setIfInBounds_toArray, List.set_cons_zero, List.set_cons_succ, i64_w, i32_w]
   rfl
  refine take_ (i := 11) (N := some 14) (v := ?_) (a' := ?_) #[tb_,tb_,tb_,tb_,tb_,tb_,fb_,tb_,tb_,fb_,tb_,tb_,fb_,fb_,fb_] rfl rfl (take_ofW HT_.out HW_.out (by kernel_rfl)) (fun _ _ _ h => h) (Or.inl ⟨by rfl, ?_⟩) hHeld ?_ ?_
  rotate_left
  ·
   rintro w' ⟨s0, s1, s2, s3, s4, s5, s6⟩
   go_simp
   with_reducible rfl
  rotate_left
  ·
   simp only [Act.put, List.setIfInBounds_toArray, List.set_cons_zero, List.set_cons_succ, i64_w, i32_w]
   rfl
  refine join_ (σ := Value) 2 #[tb_,tb_,tb_,tb_,tb_,tb_,tb_,tb_,tb_,tb_,tb_,tb_,tb_,fb_,fb_] (fun s_ => [(9, s_), (12, .int .i64 t204), (15, .int .i64 t205)]) (fun s_ w' => (w'.cell? ⟨gb200, 0, none⟩ = some (.int .i64 a0_0) ∧ w'.cell? ⟨gb200, 1, none⟩ = some (.int .i64 a0_1) ∧ w'.cell? ⟨gb200, 2, none⟩ = some (.int .i64 a0_2) ∧ w'.cell? ⟨gb200, 3, none⟩ = some (.int .i64 a0_3) ∧ w'.cell? ⟨gb200, 4, none⟩ = some (.int .i64 a0_4) ∧ w'.cell? ⟨gb200, 5, none⟩ = some (.string a0_5) ∧ w'.cell? ⟨gb200, 6, none⟩ = some (.string a0_6)) ∧ (Kd.R (Kd.int .i64) 3 w' w.heap.size (fun k_ => (w.heap.size ≤ k_)) s_ y201) ∧ (w'.heap[gb200]? = some (.cells #[.int .i64 a0_0, .int .i64 a0_1, .int .i64 a0_2, .int .i64 a0_3, .int .i64 a0_4, .string a0_5, .string a0_6] 55 (0, 0))) ∧ (Below w.heap.size w w')) ?_ ?_
  rotate_left
  ·
   intro hCont
   refine two_ (i := 6) (j := 9) (Ni := some 9) (Nj := some 12) #[tb_,tb_,tb_,tb_,tb_,tb_,tb_,tb_,tb_,fb_,tb_,tb_,fb_,fb_,fb_] #[tb_,tb_,tb_,tb_,tb_,tb_,fb_,tb_,tb_,tb_,tb_,tb_,fb_,fb_,fb_] rfl rfl rfl rfl (two_of HT_.out (by kernel_rfl)) (by decide) (by decide) (fun K hK => ?_) (fun K hK => ?_)
   ·
    skip
    refine Kd.R_lit_step (Kd.int .i64) _ 3 ?hg (N := 9) ?hd (xs := ([a0_1, a0_2, a0_3] : List Int)) (inner := [.int .i64 a0_1, .int .i64 a0_2, .int .i64 a0_3]) (ok := fun _ => True) (okp := fun _ => True) ?hr ?hp (fun _ hk => hk) trivial (Below.refl _ _) (Nat.le_refl _) (by simp) ?_; (case hd => rfl); (case hg => rfl); (case hr => first | (go_simp; done) | (go_simp; rfl)); (case hp => exact (Reps.one (show Kd.M (Kd.int .i64) _ _ _ a0_1 [.int .i64 a0_1] from rfl) (Reps.one (show Kd.M (Kd.int .i64) _ _ _ a0_2 [.int .i64 a0_2] from rfl) (Reps.one (show Kd.M (Kd.int .i64) _ _ _ a0_3 [.int .i64 a0_3] from rfl) (Reps.none _ _)))))
    intro v202 w9 ho10 hb hg_ hnew_
    clear hg_ hnew_
    (first | rw [← Ny201.out] at ho10 | (simp only [Int.reduceToNat] at ho10; rw [← Ny201.out] at ho10))
    have n0_ := Ad_.mk (Kd.R_lower (Kd.R_newM (M := fun k_ => (w.heap.size ≤ k_)) ho10 (bZ_ (by repeat (with_reducible first | exact HB.out | apply bA_ | apply bN_ | apply b1_ | refine bS_ ?_ GE200.out))) (fun k_ h_ => h_)) (bZ_ (by repeat (with_reducible first | exact HB.out | apply bA_ | apply bN_ | apply b1_ | refine bS_ ?_ GE200.out))))
    have n1_ := Ad_.mk (blk_below (g := gb200) (o := .cells #[.int .i64 a0_0, .int .i64 a0_1, .int .i64 a0_2, .int .i64 a0_3, .int .i64 a0_4, .string a0_5, .string a0_6] 55 (0, 0)) (by (with_reducible repeat (first | refine kN_ ?_ _ | refine k1_ ?_ | refine kA_ ?_ _)); exact BK200.out) hb)
    have n2_ := Ad_.mk (bP_ (by repeat (with_reducible first | exact HB.out | apply bA_ | apply bN_ | apply b1_ | refine bS_ ?_ GE200.out)) hb)
    clear BK200
    clear HB
    have HO203 := n0_
    have BK200 := n1_
    have HB := n2_
    clear n0_ n1_ n2_
    clear hb ho10
    refine hK.out _ _ ⟨(kC_ BK200.out 0).trans rfl, (kC_ BK200.out 1).trans rfl, (kC_ BK200.out 2).trans rfl, (kC_ BK200.out 3).trans rfl, (kC_ BK200.out 4).trans rfl, (kC_ BK200.out 5).trans rfl, (kC_ BK200.out 6).trans rfl⟩ (fun hHeld => ?_)
    clear hK K
    refine norm_ (a' := ?_) ?_ ?_
    rotate_left
    ·
     show Act.put _ (some 9) _ = _
     simp only [Act.put, List.setIfInBounds_toArray, List.set_cons_zero, List.set_cons_succ, i64_w, i32_w]
     rfl
    refine one_ (i := 9) (N := some 12) #[tb_,tb_,tb_,tb_,tb_,tb_,tb_,tb_,tb_,tb_,tb_,tb_,fb_,fb_,fb_] rfl rfl (one_of HT_.out (by kernel_rfl)) (by decide) (fun K hK => ?_)
    refine goes_ Tryd.func98 (by kernel_rfl) rfl #[.int .i64 a0_0] (by rfl) rfl rfl (by (try simp only [List.map_toArray, List.map_cons, List.map_nil]); first | done | rfl | (simp only [List.length_drop, List.length_take]; rfl)) ?_
    with_reducible refine (impl_Arity.calls k a0_0 t204 _ A2.out).mono ?_
    rintro e w' ⟨rfl, ⟨nd, rfl⟩⟩
    refine ⟨_, rfl, ?_⟩
    refine hK.out _ _ ⟨(kC_ BK200.out 0).trans rfl, (kC_ BK200.out 1).trans rfl, (kC_ BK200.out 2).trans rfl, (kC_ BK200.out 3).trans rfl, (kC_ BK200.out 4).trans rfl, (kC_ BK200.out 5).trans rfl, (kC_ BK200.out 6).trans rfl⟩ (fun hHeld => ?_)
    clear hK K
    refine norm_ (a' := ?_) ?_ ?_
    rotate_left
    ·
     show Act.put _ (some 12) _ = _
     simp only [Act.put, List.setIfInBounds_toArray, List.set_cons_zero, List.set_cons_succ, i64_w, i32_w]
     rfl
    refine one_ (i := 12) (N := some 15) #[tb_,tb_,tb_,tb_,tb_,tb_,tb_,tb_,tb_,tb_,tb_,tb_,tb_,fb_,fb_] rfl rfl (one_of HT_.out (by kernel_rfl)) (by decide) (fun K hK => ?_)
    refine goes_ Tryd.func98 (by kernel_rfl) rfl #[.int .i64 a0_0] (by rfl) rfl rfl (by (try simp only [List.map_toArray, List.map_cons, List.map_nil]); first | done | rfl | (simp only [List.length_drop, List.length_take]; rfl)) ?_
    with_reducible refine (impl_Arity.calls k a0_0 t205 _ A3.out).mono ?_
    rintro e w' ⟨rfl, ⟨nd, rfl⟩⟩
    refine ⟨_, rfl, ?_⟩
    refine hK.out _ _ ⟨(kC_ BK200.out 0).trans rfl, (kC_ BK200.out 1).trans rfl, (kC_ BK200.out 2).trans rfl, (kC_ BK200.out 3).trans rfl, (kC_ BK200.out 4).trans rfl, (kC_ BK200.out 5).trans rfl, (kC_ BK200.out 6).trans rfl⟩ (fun hHeld => ?_)
    clear hK K
    refine norm_ (a' := ?_) ?_ ?_
    rotate_left
    ·
     show Act.put _ (some 15) _ = _
     simp only [Act.put, List.setIfInBounds_toArray, List.set_cons_zero, List.set_cons_succ, i64_w, i32_w]
     rfl
    exact norm_ (by simp only [putAll, Act.put, List.setIfInBounds_toArray, List.set_cons_zero, List.set_cons_succ]) (hCont (v202) _ ⟨hHeld, (by (with_reducible repeat (first | apply Kd.R_alloc | apply Kd.R_drewN | apply Kd.R_drew)); exact Kd.R_mono HO203.out (fun _ hk => hk.1)), (by (with_reducible repeat (first | refine kN_ ?_ _ | refine k1_ ?_ | refine kA_ ?_ _)); exact BK200.out), (by repeat (with_reducible first | exact HB.out | apply bA_ | apply bN_ | apply b1_ | refine bS_ ?_ GE200.out))⟩)
   skip
   refine goes_ Tryd.func98 (by kernel_rfl) rfl #[.int .i64 a0_0] (by rfl) rfl rfl (by (try simp only [List.map_toArray, List.map_cons, List.map_nil]); first | done | rfl | (simp only [List.length_drop, List.length_take]; rfl)) ?_
   with_reducible refine (impl_Arity.calls k a0_0 t204 _ A2.out).mono ?_
   rintro e w' ⟨rfl, ⟨nd, rfl⟩⟩
   refine ⟨_, rfl, ?_⟩
   refine hK.out _ _ ⟨(kC_ BK200.out 0).trans rfl, (kC_ BK200.out 1).trans rfl, (kC_ BK200.out 2).trans rfl, (kC_ BK200.out 3).trans rfl, (kC_ BK200.out 4).trans rfl, (kC_ BK200.out 5).trans rfl, (kC_ BK200.out 6).trans rfl⟩ (fun hHeld => ?_)
   clear hK K
   refine norm_ (a' := ?_) ?_ ?_
   rotate_left
   ·
    show Act.put _ (some 12) _ = _
    simp only [Act.put, List.setIfInBounds_toArray, List.set_cons_zero, List.set_cons_succ, i64_w, i32_w]
    rfl
   refine two_ (i := 6) (j := 12) (Ni := some 9) (Nj := some 15) #[tb_,tb_,tb_,tb_,tb_,tb_,tb_,tb_,tb_,tb_,tb_,tb_,fb_,fb_,fb_] #[tb_,tb_,tb_,tb_,tb_,tb_,fb_,tb_,tb_,tb_,tb_,tb_,tb_,fb_,fb_] rfl rfl rfl rfl (two_of HT_.out (by kernel_rfl)) (by decide) (by decide) (fun K hK => ?_) (fun K hK => ?_)
   ·
    skip
    refine Kd.R_lit_step (Kd.int .i64) _ 3 ?hg (N := 9) ?hd (xs := ([a0_1, a0_2, a0_3] : List Int)) (inner := [.int .i64 a0_1, .int .i64 a0_2, .int .i64 a0_3]) (ok := fun _ => True) (okp := fun _ => True) ?hr ?hp (fun _ hk => hk) trivial (Below.refl _ _) (Nat.le_refl _) (by simp) ?_; (case hd => rfl); (case hg => rfl); (case hr => first | (go_simp; done) | (go_simp; rfl)); (case hp => exact (Reps.one (show Kd.M (Kd.int .i64) _ _ _ a0_1 [.int .i64 a0_1] from rfl) (Reps.one (show Kd.M (Kd.int .i64) _ _ _ a0_2 [.int .i64 a0_2] from rfl) (Reps.one (show Kd.M (Kd.int .i64) _ _ _ a0_3 [.int .i64 a0_3] from rfl) (Reps.none _ _)))))
    intro v202 w9 ho10 hb hg_ hnew_
    clear hg_ hnew_
    (first | rw [← Ny201.out] at ho10 | (simp only [Int.reduceToNat] at ho10; rw [← Ny201.out] at ho10))
    have n0_ := Ad_.mk (Kd.R_lower (Kd.R_newM (M := fun k_ => (w.heap.size ≤ k_)) ho10 (bZ_ (by repeat (with_reducible first | exact HB.out | apply bA_ | apply bN_ | apply b1_ | refine bS_ ?_ GE200.out))) (fun k_ h_ => h_)) (bZ_ (by repeat (with_reducible first | exact HB.out | apply bA_ | apply bN_ | apply b1_ | refine bS_ ?_ GE200.out))))
    have n1_ := Ad_.mk (blk_below (g := gb200) (o := .cells #[.int .i64 a0_0, .int .i64 a0_1, .int .i64 a0_2, .int .i64 a0_3, .int .i64 a0_4, .string a0_5, .string a0_6] 55 (0, 0)) (by (with_reducible repeat (first | refine kN_ ?_ _ | refine k1_ ?_ | refine kA_ ?_ _)); exact BK200.out) hb)
    have n2_ := Ad_.mk (bP_ (by repeat (with_reducible first | exact HB.out | apply bA_ | apply bN_ | apply b1_ | refine bS_ ?_ GE200.out)) hb)
    clear BK200
    clear HB
    have HO203 := n0_
    have BK200 := n1_
    have HB := n2_
    clear n0_ n1_ n2_
    clear hb ho10
    refine hK.out _ _ ⟨(kC_ BK200.out 0).trans rfl, (kC_ BK200.out 1).trans rfl, (kC_ BK200.out 2).trans rfl, (kC_ BK200.out 3).trans rfl, (kC_ BK200.out 4).trans rfl, (kC_ BK200.out 5).trans rfl, (kC_ BK200.out 6).trans rfl⟩ (fun hHeld => ?_)
    clear hK K
    refine norm_ (a' := ?_) ?_ ?_
    rotate_left
    ·
     show Act.put _ (some 9) _ = _
     simp only [Act.put, List.setIfInBounds_toArray, List.set_cons_zero, List.set_cons_succ, i64_w, i32_w]
     rfl
    refine one_ (i := 12) (N := some 15) #[tb_,tb_,tb_,tb_,tb_,tb_,tb_,tb_,tb_,tb_,tb_,tb_,tb_,fb_,fb_] rfl rfl (one_of HT_.out (by kernel_rfl)) (by decide) (fun K hK => ?_)
    refine goes_ Tryd.func98 (by kernel_rfl) rfl #[.int .i64 a0_0] (by rfl) rfl rfl (by (try simp only [List.map_toArray, List.map_cons, List.map_nil]); first | done | rfl | (simp only [List.length_drop, List.length_take]; rfl)) ?_
    with_reducible refine (impl_Arity.calls k a0_0 t205 _ A3.out).mono ?_
    rintro e w' ⟨rfl, ⟨nd, rfl⟩⟩
    refine ⟨_, rfl, ?_⟩
    refine hK.out _ _ ⟨(kC_ BK200.out 0).trans rfl, (kC_ BK200.out 1).trans rfl, (kC_ BK200.out 2).trans rfl, (kC_ BK200.out 3).trans rfl, (kC_ BK200.out 4).trans rfl, (kC_ BK200.out 5).trans rfl, (kC_ BK200.out 6).trans rfl⟩ (fun hHeld => ?_)
    clear hK K
    refine norm_ (a' := ?_) ?_ ?_
    rotate_left
    ·
     show Act.put _ (some 15) _ = _
     simp only [Act.put, List.setIfInBounds_toArray, List.set_cons_zero, List.set_cons_succ, i64_w, i32_w]
     rfl
    exact norm_ (by simp only [putAll, Act.put, List.setIfInBounds_toArray, List.set_cons_zero, List.set_cons_succ]) (hCont (v202) _ ⟨hHeld, (by (with_reducible repeat (first | apply Kd.R_alloc | apply Kd.R_drewN | apply Kd.R_drew)); exact Kd.R_mono HO203.out (fun _ hk => hk.1)), (by (with_reducible repeat (first | refine kN_ ?_ _ | refine k1_ ?_ | refine kA_ ?_ _)); exact BK200.out), (by repeat (with_reducible first | exact HB.out | apply bA_ | apply bN_ | apply b1_ | refine bS_ ?_ GE200.out))⟩)
   skip
   refine goes_ Tryd.func98 (by kernel_rfl) rfl #[.int .i64 a0_0] (by rfl) rfl rfl (by (try simp only [List.map_toArray, List.map_cons, List.map_nil]); first | done | rfl | (simp only [List.length_drop, List.length_take]; rfl)) ?_
   with_reducible refine (impl_Arity.calls k a0_0 t205 _ A3.out).mono ?_
   rintro e w' ⟨rfl, ⟨nd, rfl⟩⟩
   refine ⟨_, rfl, ?_⟩
   refine hK.out _ _ ⟨(kC_ BK200.out 0).trans rfl, (kC_ BK200.out 1).trans rfl, (kC_ BK200.out 2).trans rfl, (kC_ BK200.out 3).trans rfl, (kC_ BK200.out 4).trans rfl, (kC_ BK200.out 5).trans rfl, (kC_ BK200.out 6).trans rfl⟩ (fun hHeld => ?_)
   clear hK K
   refine norm_ (a' := ?_) ?_ ?_
   rotate_left
   ·
    show Act.put _ (some 15) _ = _
    simp only [Act.put, List.setIfInBounds_toArray, List.set_cons_zero, List.set_cons_succ, i64_w, i32_w]
    rfl
   refine one_ (i := 6) (N := some 9) #[tb_,tb_,tb_,tb_,tb_,tb_,tb_,tb_,tb_,tb_,tb_,tb_,tb_,fb_,fb_] rfl rfl (one_of HT_.out (by kernel_rfl)) (by decide) (fun K hK => ?_)
   refine Kd.R_lit_step (Kd.int .i64) _ 3 ?hg (N := 9) ?hd (xs := ([a0_1, a0_2, a0_3] : List Int)) (inner := [.int .i64 a0_1, .int .i64 a0_2, .int .i64 a0_3]) (ok := fun _ => True) (okp := fun _ => True) ?hr ?hp (fun _ hk => hk) trivial (Below.refl _ _) (Nat.le_refl _) (by simp) ?_; (case hd => rfl); (case hg => rfl); (case hr => first | (go_simp; done) | (go_simp; rfl)); (case hp => exact (Reps.one (show Kd.M (Kd.int .i64) _ _ _ a0_1 [.int .i64 a0_1] from rfl) (Reps.one (show Kd.M (Kd.int .i64) _ _ _ a0_2 [.int .i64 a0_2] from rfl) (Reps.one (show Kd.M (Kd.int .i64) _ _ _ a0_3 [.int .i64 a0_3] from rfl) (Reps.none _ _)))))
   intro v202 w9 ho10 hb hg_ hnew_
   clear hg_ hnew_
   (first | rw [← Ny201.out] at ho10 | (simp only [Int.reduceToNat] at ho10; rw [← Ny201.out] at ho10))
   have n0_ := Ad_.mk (Kd.R_lower (Kd.R_newM (M := fun k_ => (w.heap.size ≤ k_)) ho10 (bZ_ (by repeat (with_reducible first | exact HB.out | apply bA_ | apply bN_ | apply b1_ | refine bS_ ?_ GE200.out))) (fun k_ h_ => h_)) (bZ_ (by repeat (with_reducible first | exact HB.out | apply bA_ | apply bN_ | apply b1_ | refine bS_ ?_ GE200.out))))
   have n1_ := Ad_.mk (blk_below (g := gb200) (o := .cells #[.int .i64 a0_0, .int .i64 a0_1, .int .i64 a0_2, .int .i64 a0_3, .int .i64 a0_4, .string a0_5, .string a0_6] 55 (0, 0)) (by (with_reducible repeat (first | refine kN_ ?_ _ | refine k1_ ?_ | refine kA_ ?_ _)); exact BK200.out) hb)
   have n2_ := Ad_.mk (bP_ (by repeat (with_reducible first | exact HB.out | apply bA_ | apply bN_ | apply b1_ | refine bS_ ?_ GE200.out)) hb)
   clear BK200
   clear HB
   have HO203 := n0_
   have BK200 := n1_
   have HB := n2_
   clear n0_ n1_ n2_
   clear hb ho10
   refine hK.out _ _ ⟨(kC_ BK200.out 0).trans rfl, (kC_ BK200.out 1).trans rfl, (kC_ BK200.out 2).trans rfl, (kC_ BK200.out 3).trans rfl, (kC_ BK200.out 4).trans rfl, (kC_ BK200.out 5).trans rfl, (kC_ BK200.out 6).trans rfl⟩ (fun hHeld => ?_)
   clear hK K
   refine norm_ (a' := ?_) ?_ ?_
   rotate_left
   ·
    show Act.put _ (some 9) _ = _
    simp only [Act.put, List.setIfInBounds_toArray, List.set_cons_zero, List.set_cons_succ, i64_w, i32_w]
    rfl
   exact norm_ (by simp only [putAll, Act.put, List.setIfInBounds_toArray, List.set_cons_zero, List.set_cons_succ]) (hCont (v202) _ ⟨hHeld, (by (with_reducible repeat (first | apply Kd.R_alloc | apply Kd.R_drewN | apply Kd.R_drew)); exact Kd.R_mono HO203.out (fun _ hk => hk.1)), (by (with_reducible repeat (first | refine kN_ ?_ _ | refine k1_ ?_ | refine kA_ ?_ _)); exact BK200.out), (by repeat (with_reducible first | exact HB.out | apply bA_ | apply bN_ | apply b1_ | refine bS_ ?_ GE200.out))⟩)
  rintro v202 w11 ⟨hS_, h0_, h1_, h2_⟩
  have n0_ : Ad_ (Kd.R (Kd.int .i64) 3 w11 w.heap.size (fun k_ => (w.heap.size ≤ k_)) v202 y201) := ⟨h0_⟩
  have n1_ : Ad_ (w11.heap[gb200]? = some (.cells #[.int .i64 a0_0, .int .i64 a0_1, .int .i64 a0_2, .int .i64 a0_3, .int .i64 a0_4, .string a0_5, .string a0_6] 55 (0, 0))) := ⟨h1_⟩
  have n2_ : Ad_ (Below w.heap.size w w11) := ⟨h2_⟩
  clear BK200
  clear HB
  clear h0_ h1_ h2_
  have HO203 := n0_
  have BK200 := n1_
  have HB := n2_
  clear n0_ n1_ n2_
  have hHeld : w11.cell? ⟨gb200, 0, none⟩ = some (.int .i64 a0_0) ∧ w11.cell? ⟨gb200, 1, none⟩ = some (.int .i64 a0_1) ∧ w11.cell? ⟨gb200, 2, none⟩ = some (.int .i64 a0_2) ∧ w11.cell? ⟨gb200, 3, none⟩ = some (.int .i64 a0_3) ∧ w11.cell? ⟨gb200, 4, none⟩ = some (.int .i64 a0_4) ∧ w11.cell? ⟨gb200, 5, none⟩ = some (.string a0_5) ∧ w11.cell? ⟨gb200, 6, none⟩ = some (.string a0_6) := hS_
  obtain ⟨Ao13, co13, eo13⟩ := Kd.R_slice HO203.out
  (first | subst eo13 | (injection eo13 with f1_ f2_ f3_; have f4_ := f1_.symm; have f5_ := f3_.symm; clear f1_ f2_ f3_; subst f4_; subst f5_))
  have qm12 : (t204 : Int) ≤ (t205 : Int) := od_
  have qn12 : (t205 : Int) ≤ ((y201.length : Int) : Int) := od_
  have q12 : (t204 : Int) ≤ ((y201.length : Int) : Int) := Int.le_trans qm12 qn12
  obtain ⟨i012, hi012, _, hsz12, _⟩ := info_parts info3
  have hroom12 : y201.length ≤ co13 := (Kd.R_reads' HO203.out).2.1
  have hC12 : Kd.F (Kd.int .i64) _ _ Ao13 y201.length y201 := (Kd.V_at (base := w.heap.size) (Kd.R_V (Kd.R_types (HO203.out) BK200.out (by decide)))).2.2
  have hcut12 := cut_to_max (P := Tryd.prog) 31 3 .i64 .i64 Tryd.underlying31 hi012 Ao13 y201.length co13 t204 t205 (od_) qm12 qn12 hroom12
  have hr12 := Kd.F_take (m := (t204 : Int).toNat) hC12 (by omega)
  have hy12 : y206.length = (t204 : Int).toNat := (by rw [Ny206.out, List.length_take]; omega)
  rw [← Ny206.out] at hr12
  rw [← hy12] at hcut12
  have HO210 := Ad_.mk (show Kd.V (Kd.int .i64) 3 _ w.heap.size _ (.slice Ao13 y206.length ((t205 : Int).toNat)) y206 from Kd.V_mk (by omega) hr12)
  have HC210 := Ad_.mk (show y206.length ≤ ((t205 : Int).toNat) from by omega)
  clear hr12 hC12 hroom12 hi012 hsz12
  have KY12 := Ad_.mk hy12
  clear hy12
  replace q12 := eq_true q12
  refine norm_ (a' := ?_) ?_ ?_
  rotate_left
  ·
   simp only [putAll, Act.put, List.setIfInBounds_toArray, List.set_cons_zero, List.set_cons_succ]
   rfl
  refine pure_ (i := 13) (N := some 16) (v := ?_) (a' := ?_) #[tb_,tb_,tb_,tb_,tb_,tb_,tb_,tb_,tb_,tb_,tb_,tb_,tb_,tb_,fb_] rfl rfl (any_of HT_.out (by kernel_rfl)) (fun _ _ _ h => h) (Or.inl ⟨by rfl, ?_⟩) ?_ ?_
  rotate_left
  ·
   intro w'
   go_simp
   with_reducible rfl
  rotate_left
  ·
   simp only [Act.put, List.setIfInBounds_toArray, List.set_cons_zero, List.set_cons_succ, i64_w, i32_w]
   rfl
  refine pure_ (i := 14) (N := some 2) (v := ?_) (a' := ?_) #[tb_,tb_,tb_,tb_,tb_,tb_,tb_,tb_,tb_,tb_,tb_,tb_,tb_,tb_,tb_] rfl rfl (any_of HT_.out (by kernel_rfl)) (fun _ _ _ h => h) (Or.inl ⟨by rfl, ?_⟩) ?_ ?_
  rotate_left
  ·
   intro w'
   go_simp
   with_reducible rfl
  rotate_left
  ·
   simp only [Act.put, List.setIfInBounds_toArray, List.set_cons_zero, List.set_cons_succ, i64_w, i32_w]
   rfl
  refine done_ (done_of HT_.out (by kernel_rfl)) ?_
  try go_wp2
  go_ret
  exact ⟨_, by first | rfl | (simp [errW_none, errW_some] <;> rfl) | (simp [*, errW_none, errW_some] <;> rfl), by (with_reducible repeat (first | apply Kd.V_alloc | apply Kd.V_drewN | apply Kd.V_drew)); exact Kd.V_mono HO210.out (fun _ hk => hk.1), by repeat (with_reducible first | exact HB.out | apply bA_ | apply bN_ | apply b1_ | refine bS_ ?_ GE200.out)⟩
def impl_in.f (a0 : Int) (a1 : Int) (a2 : Int) : Option (Bool) := if a0 ≥ a1 then (some (decide (a0 ≤ a2))) else (some false)
set_option maxHeartbeats 8000000 in
set_option maxRecDepth 100000 in
theorem impl_in.calls (a0 : Int) (a1 : Int) (a2 : Int) (r : Bool) (w : World) (h : impl_in.f a0 a1 a2 = some r) :
    Calls Tryd.prog 71 #[.int .i64 a0, .int .i64 a1, .int .i64 a2] w fun e w' => e = .returned (.bool r) ∧ Drawn0 w w' := by
  have H := h
  unfold impl_in.f at H
  clear h
  by_cases c4 : a0 ≥ a1
  ·
   rw [if_pos c4] at H
   have c4b0 := decide_eq_true c4
   clear c4
   obtain rfl := Option.some.inj H
   go_enter Tryd.func71, Tryd.ntmps71
   go_wp2
   go_ret
   exact ⟨by first | rfl | (simp; done) | (simp [*]; done), by repeat (first | exact Drawn0.refl _ | apply Drawn0.step)⟩
  rw [if_neg c4] at H
  have c4b0 := decide_eq_false c4
  clear c4
  obtain rfl := Option.some.inj H
  go_enter Tryd.func71, Tryd.ntmps71
  go_wp2
  go_ret
  exact ⟨by first | rfl | (simp; done) | (simp [*]; done), by repeat (first | exact Drawn0.refl _ | apply Drawn0.step)⟩
end Go.Proofs.YtfmlamheflbgdaaDoor.PAll
end
section
namespace Go.Proofs.YtfmlamheflbgdaaDoor.PAll
open Go.RowKit Go.Proofs.YtfmlamheflbgdaaDoorW.PrintWords Go.Proofs.YtfmlamheflbgdaaDoorW.PrintLast Go.Proofs.YtfmlamheflbgdaaDoorW.PrintMore
attribute [local go_sem] max2_int min2_int max_two min_two max_three min_three max_four min_four
set_option linter.unusedVariables false
set_option linter.unusedSimpArgs false
def impl_IsWord.l0 : Nat → ByteArray → Int → Option (Bool)
  | 0, _, _ => none
  | k + 1, x0, x3 => if x3 < (x0.size : Int) then (if 0 ≤ x3 then (if (bt x0 x3) < 97 then (some false) else (if (bt x0 x3) > 122 then (some false) else (impl_IsWord.l0 k x0 (wrap64 (x3 + 1))))) else (none)) else ((impl_in.f (x0.size : Int) 1 8).bind fun t211 => (some t211))
def impl_IsWord.f (k : Nat) (a0 : ByteArray) : Option (Bool) := impl_IsWord.l0 k a0 0
theorem impl_IsWord.mono_l : ∀ k, (∀ y0 y1, LeO (impl_IsWord.l0 k y0 y1) (impl_IsWord.l0 (k + 1) y0 y1))
  | 0 => fun _ _ r h => by simp [impl_IsWord.l0] at h
  | k + 1 => by
    have ih0 := impl_IsWord.mono_l k
    · intro y0 y1
      unfold impl_IsWord.l0
      repeat' first
      | (with_reducible exact ih0 _ _)
      | (with_reducible exact LeO.refl _)
      | (with_reducible exact LeO.none _)
      | (with_reducible refine LeO.ite ?_ ?_)
      | (with_reducible refine LeO.bind ?_ (fun _ => ?_))
      | exact LeO.none _
      | refine LeO.ite ?_ ?_
      | refine LeO.bind ?_ (fun _ => ?_)
theorem impl_IsWord.mono : ∀ a0 k, LeO (impl_IsWord.f k a0) (impl_IsWord.f (k + 1) a0) := by
  intro a0 k
  have ih0 := impl_IsWord.mono_l k
  unfold impl_IsWord.f
  repeat' first
      | (with_reducible exact ih0 _ _)
      | (with_reducible exact LeO.refl _)
      | (with_reducible exact LeO.none _)
      | (with_reducible refine LeO.ite ?_ ?_)
      | (with_reducible refine LeO.bind ?_ (fun _ => ?_))
      | exact LeO.none _
      | refine LeO.ite ?_ ?_
      | refine LeO.bind ?_ (fun _ => ?_)
set_option maxHeartbeats 8000000 in
set_option maxRecDepth 100000 in
theorem impl_IsWord.calls (k : Nat) (a0 : ByteArray) (r : Bool) (w : World) (h : impl_IsWord.f k a0 = some r) :
    Calls Tryd.prog 148 #[.string a0] w fun e w' => e = .returned (.bool r) ∧ Drawn0 w w' := by
  have H : (impl_IsWord.l0 k a0 0) = some r := h
  clear h
  have H' := Ad_.mk H
  clear H
  go_enter Tryd.func148, Tryd.ntmps148
  go_wp2
  go_loopg [3] k (fun kq v3 w' => ∃ (x3_1 : Int), v3 = .int .i64 x3_1 ∧ Ad_ (impl_IsWord.l0 kq a0 x3_1 = some r) ∧ Ad_ (kq ≤ k) ∧ Drawn0 w w')
  case atStart => exact ⟨(0), fs_, H', ⟨Nat.le_refl _⟩, by repeat (first | exact Drawn0.refl _ | apply Drawn0.step)⟩
  case round =>
    clear H'
    obtain ⟨x3_1, rfl, HA, HK1, ⟨m1, rfl⟩⟩ := hrel
    cases gk with
    | zero => exact absurd HA.out (by simp [impl_IsWord.l0])
    | succ k1 =>
      have H := HA.out
      clear HA
      simp only [impl_IsWord.l0] at H
      by_cases c2 : x3_1 < (a0.size : Int)
      rotate_left
      ·
       rw [if_neg c2] at H
       have c2b0 := decide_eq_false c2
       clear c2
       replace H := Option.bind_eq_some_iff.mp H
       obtain ⟨t211, A80, H⟩ := H
       replace H : (some t211) = some r := H
       have A8 := Ad_.mk A80
       clear A80
       obtain rfl := Option.some.inj H
       go_wp2_with (first | ((with_reducible refine gC_ (f := 71) rfl ?_); refine gM_ (some 22) rfl rfl Tryd.func71 (by kernel_rfl) rfl #[.int .i64 (a0.size : Int), .int .i64 1, .int .i64 8] rfl ?_; (with_reducible refine (impl_in.calls (a0.size : Int) 1 8 t211 _ A8.out).mono ?_); rintro e w' ⟨rfl, ⟨nd, rfl⟩⟩; refine ⟨_, rfl, ?_⟩))
       go_ret
       exact ⟨by first | rfl | (simp; done) | (simp [*]; done), by repeat (first | exact Drawn0.refl _ | apply Drawn0.step)⟩
      rw [if_pos c2] at H
      have c2b0 := decide_eq_true c2
      clear c2
      by_cases c3 : 0 ≤ x3_1
      rotate_left
      ·
       rw [if_neg c3] at H
       exact absurd H (by simp)
      rw [if_pos c3] at H
      have c3b0 := decide_eq_true c3
      clear c3
      by_cases c5 : (bt a0 x3_1) < 97
      ·
       rw [if_pos c5] at H
       have c5b0 := decide_eq_true c5
       clear c5
       obtain rfl := Option.some.inj H
       have p4 : 0 ≤ (x3_1 : Int) := od_
       have q4 : x3_1 < (a0.size : Int) := od_
       have hx4 := bt_at a0 x3_1
       replace p4 := eq_true p4
       replace q4 := eq_true q4
       go_wp2
       go_ret
       exact ⟨by first | rfl | (simp; done) | (simp [*]; done), by repeat (first | exact Drawn0.refl _ | apply Drawn0.step)⟩
      rw [if_neg c5] at H
      have c5b0 := decide_eq_false c5
      clear c5
      by_cases c7 : (bt a0 x3_1) > 122
      ·
       rw [if_pos c7] at H
       have c7b0 := decide_eq_true c7
       clear c7
       obtain rfl := Option.some.inj H
       have p4 : 0 ≤ (x3_1 : Int) := od_
       have q4 : x3_1 < (a0.size : Int) := od_
       have hx4 := bt_at a0 x3_1
       replace p4 := eq_true p4
       replace q4 := eq_true q4
       have p6 : 0 ≤ (x3_1 : Int) := od_
       have q6 : x3_1 < (a0.size : Int) := od_
       have hx6 := bt_at a0 x3_1
       replace p6 := eq_true p6
       replace q6 := eq_true q6
       go_wp2
       go_ret
       exact ⟨by first | rfl | (simp; done) | (simp [*]; done), by repeat (first | exact Drawn0.refl _ | apply Drawn0.step)⟩
      rw [if_neg c7] at H
      have c7b0 := decide_eq_false c7
      clear c7
      have H' := Ad_.mk H
      clear H
      have p4 : 0 ≤ (x3_1 : Int) := od_
      have q4 : x3_1 < (a0.size : Int) := od_
      have hx4 := bt_at a0 x3_1
      replace p4 := eq_true p4
      replace q4 := eq_true q4
      have p6 : 0 ≤ (x3_1 : Int) := od_
      have q6 : x3_1 < (a0.size : Int) := od_
      have hx6 := bt_at a0 x3_1
      replace p6 := eq_true p6
      replace q6 := eq_true q6
      go_wp2
      go_roundg k1
      case measure => have := HK1.out; omega
      case rel => exact ⟨(wrap64 (x3_1 + 1)), fs_, H', ⟨by have := HK1.out; omega⟩, by repeat (first | exact Drawn0.refl _ | apply Drawn0.step)⟩
end Go.Proofs.YtfmlamheflbgdaaDoor.PAll
end
section
namespace Go.Proofs
open Go.Shelf
def Tryd.lays146_ren : Go.Shelf.Ren := ⟨fun | 146 => 139 | 221 => 153 | 268 => 166 | 138 => 167 | 143 => 168 | 195 => 183 | 197 => 184 | 218 => 185 | 219 => 186 | 260 => 203 | 217 => 204 | 225 => 205 | 224 => 206 | 267 => 207 | 266 => 216 | 314 => 217 | n => n, fun | 9 => 9 | 31 => 104 | 3 => 3 | 4 => 4 | 0 => 0 | 105 => 182 | 21 => 21 | 5 => 5 | 46 => 141 | 119 => 205 | 139 => 208 | 138 => 207 | 146 => 209 | 51 => 194 | n => n, fun | 1 => 0 | 3 => 2 | 4 => 3 | n => n⟩
theorem Tryd.lays146 : Go.Proofs.Lays.n146 Tryd.prog Tryd.lays146_ren := {
  mixed := by kernel_rfl
  f138 := Tryd.func167.trans (congrArg some (by kernel_rfl))
  f143 := Tryd.func168.trans (congrArg some (by kernel_rfl))
  f146 := Tryd.func139.trans (congrArg some (by kernel_rfl))
  f195 := Tryd.func183.trans (congrArg some (by kernel_rfl))
  f197 := Tryd.func184.trans (congrArg some (by kernel_rfl))
  f217 := Tryd.func204.trans (congrArg some (by kernel_rfl))
  f218 := Tryd.func185.trans (congrArg some (by kernel_rfl))
  f219 := Tryd.func186.trans (congrArg some (by kernel_rfl))
  f221 := Tryd.func153.trans (congrArg some (by kernel_rfl))
  f224 := Tryd.func206.trans (congrArg some (by kernel_rfl))
  f225 := Tryd.func205.trans (congrArg some (by kernel_rfl))
  f260 := Tryd.func203.trans (congrArg some (by kernel_rfl))
  f266 := Tryd.func216.trans (congrArg some (by kernel_rfl))
  f267 := Tryd.func207.trans (congrArg some (by kernel_rfl))
  f268 := Tryd.func166.trans (congrArg some (by kernel_rfl))
  f314 := Tryd.func217.trans (congrArg some (by kernel_rfl))
  t0 := Tryd.underlying0
  a0 := Tryd.isAgg0
  z0 := Tryd.sizeOf0
  v0 := Tryd.zeroValue0
  t3 := Tryd.underlying3
  a3 := Tryd.isAgg3
  z3 := Tryd.sizeOf3
  v3 := Tryd.zeroValue3
  t4 := Tryd.underlying4
  a4 := Tryd.isAgg4
  z4 := Tryd.sizeOf4
  v4 := Tryd.zeroValue4
  t5 := Tryd.underlying5
  a5 := Tryd.isAgg5
  z5 := Tryd.sizeOf5
  v5 := Tryd.zeroValue5
  t9 := Tryd.underlying9
  a9 := Tryd.isAgg9
  z9 := Tryd.sizeOf9
  v9 := Tryd.zeroValue9
  t21 := Tryd.underlying21
  a21 := Tryd.isAgg21
  z21 := Tryd.sizeOf21
  v21 := Tryd.zeroValue21
  t31 := Tryd.underlying104
  a31 := Tryd.isAgg104
  z31 := Tryd.sizeOf104
  v31 := Tryd.zeroValue104
  t46 := Tryd.underlying141
  a46 := Tryd.isAgg141
  z46 := Tryd.sizeOf141
  v46 := Tryd.zeroValue141
  t51 := Tryd.underlying194
  a51 := Tryd.isAgg194
  z51 := Tryd.sizeOf194
  v51 := Tryd.zeroValue194
  t105 := Tryd.underlying182
  a105 := Tryd.isAgg182
  z105 := Tryd.sizeOf182
  v105 := Tryd.zeroValue182
  t119 := Tryd.underlying205
  a119 := Tryd.isAgg205
  z119 := Tryd.sizeOf205
  t138 := Tryd.underlying207
  a138 := Tryd.isAgg207
  z138 := Tryd.sizeOf207
  v138 := Tryd.zeroValue207
  t139 := Tryd.underlying208
  a139 := Tryd.isAgg208
  z139 := Tryd.sizeOf208
  v139 := Tryd.zeroValue208
  t146 := Tryd.underlying209
  a146 := Tryd.isAgg209
  z146 := Tryd.sizeOf209
  v146 := Tryd.zeroValue209
  g1 := by kernel_rfl
  g3 := by kernel_rfl
  g4 := by kernel_rfl }
end Go.Proofs
end
section
namespace Go.Proofs.YtfmlamheflbgdaaDoor.PAll
open Go.RowKit Go.Proofs.YtfmlamheflbgdaaDoorW.PrintWords Go.Proofs.YtfmlamheflbgdaaDoorW.PrintLast Go.Shelf Go.Lib
set_option maxHeartbeats 1000000 in
theorem split_any {P : Program} {ρ : Ren} (L : Lays.n146 P ρ) (hi9 : (P.info? (ρ.t 9)).map (fun i => (i.zero, i.size, i.bytes)) = some (some (.string ByteArray.empty), 1, 16)) (s sep : ByteArray) (w : World)
    (hs : s.size < 4294967281) (h1 : sep.size = 1) :
    Calls P (ρ.f 146) #[.string s, .string sep] w fun e w' =>
      e = .returned (.slice (some ⟨w.heap.size, 0, none⟩) (Lib.countB s sep + 1) (Lib.countB s sep + 1)) ∧ w' = w.alloc (.cells ((Lib.splitB sep 0 (Lib.countB s sep) s).map Value.string).toArray (ρ.t 9)) := by
  have hle := Lib.countB_le sep (by omega) s.size s (Nat.le_refl _)
  have hlen := Lib.splitB_all sep (by omega) 0 _ s rfl
  obtain ⟨b, hb⟩ := Lib.one_byte sep h1
  have c := Any.strings_genSplit_core { L with } hi9 s sep 0 (-1) (Lib.countB s sep + 1) w hs (by omega) (Nat.zero_le _)
    (fun x c _ => by
      subst hb
      refine (Any.strings_Index_one { L with } x b _).mono fun e w' ⟨he, hw⟩ => ⟨?_, hw⟩
      rw [he]
      show _ = Ending.returned (Value.int .i64 (Lib.index x.data.toList [b]))
      rw [Lib.index_one])
    (by
      subst hb
      refine (Any.strings_Count_one { L with } s b w).mono fun e w' ⟨he, hw⟩ => ⟨?_, hw⟩
      rw [he]
      show _ = Ending.returned (Value.int .i64 ((Lib.count s.data.toList [b] : Nat) : Int))
      rw [Lib.count_one]
      rfl)
    (by decide) (by decide) (by rw [if_pos (by decide)]; omega)
  rw [Nat.add_sub_cancel, hlen] at c
  have e2 : Lib.cellsOf (Lib.splitB sep 0 (Lib.countB s sep) s) (Lib.countB s sep + 1) = ((Lib.splitB sep 0 (Lib.countB s sep) s).map Value.string).toArray := by rw [← hlen]; exact Lib.cellsOf_full _
  rw [e2] at c
  have t3 := L.t3; have t9 := L.t9; have t31 := L.t31
  have a3 := L.a3; have a9 := L.a9; have a31 := L.a31
  have z3 := L.z3; have v3 := L.v3; have z9 := L.z9; have v9 := L.v9; have z31 := L.z31; have v31 := L.v31
  have e221 : ∀ args w, (callFunc (ρ.f 221) args).run P w = .ok (.enter (ρ.f 221) args) w := enters_of L.f221 (by kernel_rfl) rfl
  clear hb hle
  go_enter L.f146, Body.n146_ntmps ρ
  go_wp2_with (go_at_fn (ρ.f 221); refine c.mono ?_; rintro e w' ⟨rfl, hw⟩; rw [hw])
  go_ret
  exact ⟨rfl, rfl⟩
def strings_Split.f (a0 a1 : ByteArray) : Option (List ByteArray) := if a0.size < 4294967281 ∧ a1.size = 1 then some (Lib.splitB a1 0 (Lib.countB a0 a1) a0) else none
theorem strings_Split.calls (a0 a1 : ByteArray) (r : List ByteArray) (w : World) (h : strings_Split.f a0 a1 = some r) :
    Calls Tryd.prog 139 #[.string a0, .string a1] w fun e w' => ∃ v0_ : Value, e = .returned (v0_) ∧ Kd.R Kd.string 9 w' w.heap.size (fun _ => True) v0_ r ∧ Below w.heap.size w w' := by
  unfold strings_Split.f at h
  split at h
  ·
   rename_i hc
   obtain rfl := Option.some.inj h
   have hlen := Lib.splitB_all a1 (by omega) 0 _ a0 rfl
   have c := split_any Tryd.lays146 info9 a0 a1 w hc.1 hc.2
   refine c.mono ?_
   rintro e w' ⟨rfl, rfl⟩
   have hm : ((Lib.splitB a1 0 (Lib.countB a0 a1) a0).map Value.string).toArray.size = Lib.countB a0 a1 + 1 := by simp [hlen]
   have hmax : Lib.countB a0 a1 + 1 ≤ maxLen := by
     have := Lib.countB_le a1 (by omega) a0.size a0 (Nat.le_refl _)
     unfold maxLen
     omega
   have ho : (w.alloc (.cells ((Lib.splitB a1 0 (Lib.countB a0 a1) a0).map Value.string).toArray 9)).ownsRow w.heap.size 9 1 (.slice (some ⟨w.heap.size, 0, none⟩) (Lib.countB a0 a1 + 1) (Lib.countB a0 a1 + 1)) (Lib.splitB a1 0 (Lib.countB a0 a1) a0).length ((Lib.splitB a1 0 (Lib.countB a0 a1) a0).map Value.string) := by
     refine ⟨by simp, .inr ⟨w.heap.size, _, ((Lib.splitB a1 0 (Lib.countB a0 a1) a0).map Value.string).toArray, by rw [hlen], Nat.le_refl _, (MapKept.heap_alloc w _).1, by rw [hlen]; exact Nat.le_refl _, hmax, by rw [hm]; omega, ?_⟩⟩
     rw [Nat.mul_one, List.take_of_length_le (by simp)]
   exact ⟨_, rfl, Kd.R_of_own (h1 := fun _ => rfl) (ok := fun _ => True) ho (fun _ _ => trivial), bA_ (Below.refl _ _) _⟩
  cases h
end Go.Proofs.YtfmlamheflbgdaaDoor.PAll
end
section
namespace Go.Proofs.YtfmlamheflbgdaaDoor.PAll
open Go.RowKit Go.Proofs.YtfmlamheflbgdaaDoorW.PrintWords Go.Proofs.YtfmlamheflbgdaaDoorW.PrintLast Go.Proofs.YtfmlamheflbgdaaDoorW.PrintMore
attribute [local go_sem] max2_int min2_int max_two min_two max_three min_three max_four min_four
set_option linter.unusedVariables false
set_option linter.unusedSimpArgs false
def impl_IsKey.l0 : Nat → ByteArray → List ByteArray → Int → Int → Option (Bool)
  | 0, _, _, _, _ => none
  | k + 1, x0, x5, x6, x7 => if x7 < x6 then (if 0 ≤ x7 then (if x7 < (x5.length : Int) then (if (rdOf ByteArray.empty x5 x7).toList = x0.toList then (some true) else (impl_IsKey.l0 k x0 x5 x6 (wrap64 (x7 + 1)))) else (none)) else (none)) else (some false)
def impl_IsKey.f (k : Nat) (a0 : ByteArray) : Option (Bool) := (strings_Split.f (⟨#[102, 117, 110, 32, 97, 112, 112, 32, 108, 101, 116, 32, 114, 101, 99, 32, 105, 102, 32, 97, 100, 100, 32, 115, 117, 98, 32, 108, 101, 115, 115, 32, 115, 97, 109, 101, 32, 112, 97, 105, 114, 32, 102, 115, 116, 32, 115, 110, 100, 32, 110, 105, 108, 32, 99, 111, 110, 115, 32, 109, 97, 116, 99, 104, 32, 114, 101, 102, 32, 103, 101, 116, 32, 115, 101, 116, 32, 114, 97, 105, 115, 101, 32, 116, 114, 121]⟩ : ByteArray) (⟨#[32]⟩ : ByteArray)).bind fun t212 => (impl_IsKey.l0 k a0 t212 (t212.length : Int) 0)
theorem impl_IsKey.mono_l : ∀ k, (∀ y0 y1 y2 y3, LeO (impl_IsKey.l0 k y0 y1 y2 y3) (impl_IsKey.l0 (k + 1) y0 y1 y2 y3))
  | 0 => fun _ _ _ _ r h => by simp [impl_IsKey.l0] at h
  | k + 1 => by
    have ih0 := impl_IsKey.mono_l k
    · intro y0 y1 y2 y3
      unfold impl_IsKey.l0
      repeat' first
      | (with_reducible exact ih0 _ _ _ _)
      | (with_reducible exact LeO.refl _)
      | (with_reducible exact LeO.none _)
      | (with_reducible refine LeO.ite ?_ ?_)
      | (with_reducible refine LeO.bind ?_ (fun _ => ?_))
      | exact LeO.none _
      | refine LeO.ite ?_ ?_
      | refine LeO.bind ?_ (fun _ => ?_)
theorem impl_IsKey.mono : ∀ a0 k, LeO (impl_IsKey.f k a0) (impl_IsKey.f (k + 1) a0) := by
  intro a0 k
  have ih0 := impl_IsKey.mono_l k
  unfold impl_IsKey.f
  repeat' first
      | (with_reducible exact ih0 _ _ _ _)
      | (with_reducible exact LeO.refl _)
      | (with_reducible exact LeO.none _)
      | (with_reducible refine LeO.ite ?_ ?_)
      | (with_reducible refine LeO.bind ?_ (fun _ => ?_))
      | exact LeO.none _
      | refine LeO.ite ?_ ?_
      | refine LeO.bind ?_ (fun _ => ?_)
set_option maxHeartbeats 8000000 in
set_option maxRecDepth 100000 in
theorem impl_IsKey.calls (k : Nat) (a0 : ByteArray) (r : Bool) (w : World) (h : impl_IsKey.f k a0 = some r) :
    Calls Tryd.prog 149 #[.string a0] w fun e w' => e = .returned (.bool r) ∧ Below w.heap.size w w' := by
  have HB := Ad_.mk (Below.refl w.heap.size w)
  have H := h
  unfold impl_IsKey.f at H
  clear h
  replace H := Option.bind_eq_some_iff.mp H
  obtain ⟨t212, A20, H⟩ := H
  try dsimp only at H
  have A2 := Ad_.mk A20
  clear A20
  have H' := Ad_.mk H
  clear H
  go_enter Tryd.func149, Tryd.ntmps149
  go_wp2_with (first | ((with_reducible refine gC_ (f := 139) rfl ?_); refine gM_ (some 5) rfl rfl Tryd.func139 (by kernel_rfl) rfl #[.string (⟨#[102, 117, 110, 32, 97, 112, 112, 32, 108, 101, 116, 32, 114, 101, 99, 32, 105, 102, 32, 97, 100, 100, 32, 115, 117, 98, 32, 108, 101, 115, 115, 32, 115, 97, 109, 101, 32, 112, 97, 105, 114, 32, 102, 115, 116, 32, 115, 110, 100, 32, 110, 105, 108, 32, 99, 111, 110, 115, 32, 109, 97, 116, 99, 104, 32, 114, 101, 102, 32, 103, 101, 116, 32, 115, 101, 116, 32, 114, 97, 105, 115, 101, 32, 116, 114, 121]⟩ : ByteArray), .string (⟨#[32]⟩ : ByteArray)] rfl ?_; (with_reducible refine (strings_Split.calls (⟨#[102, 117, 110, 32, 97, 112, 112, 32, 108, 101, 116, 32, 114, 101, 99, 32, 105, 102, 32, 97, 100, 100, 32, 115, 117, 98, 32, 108, 101, 115, 115, 32, 115, 97, 109, 101, 32, 112, 97, 105, 114, 32, 102, 115, 116, 32, 115, 110, 100, 32, 110, 105, 108, 32, 99, 111, 110, 115, 32, 109, 97, 116, 99, 104, 32, 114, 101, 102, 32, 103, 101, 116, 32, 115, 101, 116, 32, 114, 97, 105, 115, 101, 32, 116, 114, 121]⟩ : ByteArray) (⟨#[32]⟩ : ByteArray) t212 _ A2.out).mono ?_); rintro e w3 ⟨v213, rfl, ho0, hb⟩; refine ⟨_, rfl, ?_⟩; have n0_ := Ad_.mk (Kd.R_lower ho0 (bZ_ (by repeat (with_reducible first | exact HB.out | apply bA_ | apply bN_ | apply b1_)))); have n1_ := Ad_.mk (bP_ (by repeat (with_reducible first | exact HB.out | apply bA_ | apply bN_ | apply b1_)) hb); clear HB; have HO214 := n0_; have HB := n1_; clear n0_ n1_; (try clear hb); (try clear hb2); (try clear hk); (try clear hi); (try clear ho0); obtain ⟨Ao4, co4, eo4⟩ := Kd.R_slice HO214.out; subst eo4))
  go_loopg [7] k (fun kq v7 w' => ∃ (x7_1 : Int), v7 = .int .i64 x7_1 ∧ Ad_ (impl_IsKey.l0 kq a0 t212 (t212.length : Int) x7_1 = some r) ∧ Ad_ (kq ≤ k) ∧ Ad_ (Kd.R Kd.string 9 w' w.heap.size (fun _ => True) (.slice Ao4 t212.length co4) t212) ∧ Ad_ (Below w.heap.size w w'))
  case atStart => exact ⟨(0), fs_, H', ⟨Nat.le_refl _⟩, ⟨by (with_reducible repeat (first | apply Kd.R_alloc | apply Kd.R_drewN | apply Kd.R_drew)); exact HO214.out⟩, ⟨by repeat (with_reducible first | exact HB.out | apply bA_ | apply bN_ | apply b1_)⟩⟩
  case round =>
    clear H'
    try clear p2
    obtain ⟨x7_1, rfl, HA, HK1, HO_5, HB⟩ := hrel
    cases gk with
    | zero => exact absurd HA.out (by simp [impl_IsKey.l0])
    | succ k1 =>
      have H := HA.out
      clear HA
      simp only [impl_IsKey.l0] at H
      by_cases c5 : x7_1 < (t212.length : Int)
      rotate_left
      ·
       rw [if_neg c5] at H
       have c5b0 := decide_eq_false c5
       clear c5
       obtain rfl := Option.some.inj H
       go_wp2
       go_ret
       exact ⟨by first | rfl | (simp [errW_none, errW_some] <;> rfl) | (simp [*, errW_none, errW_some] <;> rfl), by repeat (with_reducible first | exact HB.out | apply bA_ | apply bN_ | apply b1_)⟩
      rw [if_pos c5] at H
      have c5b0 := decide_eq_true c5
      clear c5
      by_cases c6 : 0 ≤ x7_1
      rotate_left
      ·
       rw [if_neg c6] at H
       exact absurd H (by simp)
      rw [if_pos c6] at H
      have c6b0 := decide_eq_true c6
      clear c6
      by_cases c7 : x7_1 < (t212.length : Int)
      rotate_left
      ·
       rw [if_neg c7] at H
       exact absurd H (by simp)
      rw [if_pos c7] at H
      have c7b0 := decide_eq_true c7
      clear c7
      by_cases c8 : (rdOf ByteArray.empty t212 x7_1).toList = a0.toList
      ·
       rw [if_pos c8] at H
       have c8b0 : ((rdOf ByteArray.empty t212 x7_1).toList == a0.toList) = true := beq_iff_eq.mpr c8
       have c8b1 : ((rdOf ByteArray.empty t212 x7_1).toList != a0.toList) = false := bne_eq_false_iff_eq.mpr c8
       clear c8
       obtain rfl := Option.some.inj H
       have p215 : 0 ≤ (x7_1 : Int) := od_
       have q215 : x7_1 < (t212.length : Int) := od_
       obtain ⟨ad215, e215, hx215_0⟩ := Kd.at_string (Kd.R_reads' HO_5.out).2.2 x7_1 p215 q215
       cases e215
       replace p215 := eq_true p215
       replace q215 := eq_true q215
       go_wp2
       go_ret
       exact ⟨by first | rfl | (simp [errW_none, errW_some] <;> rfl) | (simp [*, errW_none, errW_some] <;> rfl), by repeat (with_reducible first | exact HB.out | apply bA_ | apply bN_ | apply b1_)⟩
      rw [if_neg c8] at H
      have c8b0 : ((rdOf ByteArray.empty t212 x7_1).toList == a0.toList) = false := beq_eq_false_iff_ne.mpr c8
      have c8b1 : ((rdOf ByteArray.empty t212 x7_1).toList != a0.toList) = true := bne_iff_ne.mpr c8
      have H' := Ad_.mk H
      clear H
      have p215 : 0 ≤ (x7_1 : Int) := od_
      have q215 : x7_1 < (t212.length : Int) := od_
      obtain ⟨ad215, e215, hx215_0⟩ := Kd.at_string (Kd.R_reads' HO_5.out).2.2 x7_1 p215 q215
      cases e215
      replace p215 := eq_true p215
      replace q215 := eq_true q215
      go_wp2
      go_roundg k1
      case measure => have := HK1.out; omega
      case rel => exact ⟨(wrap64 (x7_1 + 1)), fs_, H', ⟨by have := HK1.out; omega⟩, ⟨by (with_reducible repeat (first | apply Kd.R_alloc | apply Kd.R_drewN | apply Kd.R_drew)); exact HO_5.out⟩, ⟨by repeat (with_reducible first | exact HB.out | apply bA_ | apply bN_ | apply b1_)⟩⟩
def impl_isName.f (k : Nat) (a0 : ByteArray) : Option (Bool) := (impl_IsWord.f k a0).bind fun t216 => (if t216 = true then ((impl_IsKey.f k a0).bind fun t217 => (some (!t217))) else (some false))
theorem impl_isName.mono : ∀ a0 k, LeO (impl_isName.f k a0) (impl_isName.f (k + 1) a0) := by
  intro a0 k
  unfold impl_isName.f
  repeat' first
      | (with_reducible exact impl_IsKey.mono _ _)
      | (with_reducible exact impl_IsWord.mono _ _)
      | (with_reducible exact LeO.refl _)
      | (with_reducible exact LeO.none _)
      | (with_reducible refine LeO.ite ?_ ?_)
      | (with_reducible refine LeO.bind ?_ (fun _ => ?_))
      | exact LeO.none _
      | refine LeO.ite ?_ ?_
      | refine LeO.bind ?_ (fun _ => ?_)
set_option maxHeartbeats 8000000 in
set_option maxRecDepth 100000 in
theorem impl_isName.calls (k : Nat) (a0 : ByteArray) (r : Bool) (w : World) (h : impl_isName.f k a0 = some r) :
    Calls Tryd.prog 135 #[.string a0] w fun e w' => e = .returned (.bool r) ∧ Below w.heap.size w w' := by
  have HB := Ad_.mk (Below.refl w.heap.size w)
  have H := h
  unfold impl_isName.f at H
  clear h
  replace H := Option.bind_eq_some_iff.mp H
  obtain ⟨t216, A20, H⟩ := H
  try dsimp only at H
  have A2 := Ad_.mk A20
  clear A20
  by_cases c3 : t216 = true
  rotate_left
  ·
   replace c3 := Bool.eq_false_iff.mpr c3
   subst c3
   have H1 : (some false) = some r := by rw [if_neg (show ¬ (false = true) by decide)] at H; exact H
   clear H
   have H := H1
   clear H1
   obtain rfl := Option.some.inj H
   go_enter Tryd.func135, Tryd.ntmps135
   go_wp2_with (first | ((with_reducible refine gC_ (f := 148) rfl ?_); refine gM_ (some 4) rfl rfl Tryd.func148 (by kernel_rfl) rfl #[.string a0] rfl ?_; (with_reducible refine (impl_IsWord.calls k a0 false _ A2.out).mono ?_); rintro e w' ⟨rfl, ⟨nd, rfl⟩⟩; refine ⟨_, rfl, ?_⟩))
   go_ret
   exact ⟨by first | rfl | (simp [errW_none, errW_some] <;> rfl) | (simp [*, errW_none, errW_some] <;> rfl), by repeat (with_reducible first | exact HB.out | apply bA_ | apply bN_ | apply b1_)⟩
  subst c3
  have H1 := H
  rw [if_pos rfl] at H1
  clear H
  have H := H1
  clear H1
  replace H := Option.bind_eq_some_iff.mp H
  obtain ⟨t217, A40, H⟩ := H
  replace H : (some (!t217)) = some r := H
  have A4 := Ad_.mk A40
  clear A40
  obtain rfl := Option.some.inj H
  go_enter Tryd.func135, Tryd.ntmps135
  go_wp2_with (first | ((with_reducible refine gC_ (f := 148) rfl ?_); refine gM_ (some 4) rfl rfl Tryd.func148 (by kernel_rfl) rfl #[.string a0] rfl ?_; (with_reducible refine (impl_IsWord.calls k a0 true _ A2.out).mono ?_); rintro e w' ⟨rfl, ⟨nd, rfl⟩⟩; refine ⟨_, rfl, ?_⟩) | (go_at_call 149; (with_reducible refine (impl_IsKey.calls k a0 t217 _ A4.out).mono ?_); rintro e w5 ⟨rfl, hb⟩; have n0_ := Ad_.mk (bP_ (by repeat (with_reducible first | exact HB.out | apply bA_ | apply bN_ | apply b1_)) hb); clear HB; have HB := n0_; clear n0_; (try clear hb); (try clear hb2); (try clear hk); (try clear hi)))
  go_ret
  exact ⟨by first | rfl | (simp [errW_none, errW_some] <;> rfl) | (simp [*, errW_none, errW_some] <;> rfl), by repeat (with_reducible first | exact HB.out | apply bA_ | apply bN_ | apply b1_)⟩
def impl_nameFits.f (k : Nat) (a0 : ByteArray) (a1 : Bool) : Option (Bool) := if a1 = true then ((impl_isName.f k a0).bind fun t218 => (some t218)) else (some (a0.toList == ([] : List UInt8)))
theorem impl_nameFits.mono : ∀ a0 a1 k, LeO (impl_nameFits.f k a0 a1) (impl_nameFits.f (k + 1) a0 a1) := by
  intro a0 a1 k
  unfold impl_nameFits.f
  repeat' first
      | (with_reducible exact impl_isName.mono _ _)
      | (with_reducible exact LeO.refl _)
      | (with_reducible exact LeO.none _)
      | (with_reducible refine LeO.ite ?_ ?_)
      | (with_reducible refine LeO.bind ?_ (fun _ => ?_))
      | exact LeO.none _
      | refine LeO.ite ?_ ?_
      | refine LeO.bind ?_ (fun _ => ?_)
set_option maxHeartbeats 8000000 in
set_option maxRecDepth 100000 in
theorem impl_nameFits.calls (k : Nat) (a0 : ByteArray) (a1 : Bool) (r : Bool) (w : World) (h : impl_nameFits.f k a0 a1 = some r) :
    Calls Tryd.prog 118 #[.string a0, .bool a1] w fun e w' => e = .returned (.bool r) ∧ Below w.heap.size w w' := by
  have HB := Ad_.mk (Below.refl w.heap.size w)
  have H := h
  unfold impl_nameFits.f at H
  clear h
  by_cases c3 : a1 = true
  rotate_left
  ·
   replace c3 := Bool.eq_false_iff.mpr c3
   subst c3
   have H1 : (some (a0.toList == ([] : List UInt8))) = some r := by rw [if_neg (show ¬ (false = true) by decide)] at H; exact H
   clear H
   have H := H1
   clear H1
   obtain rfl := Option.some.inj H
   go_enter Tryd.func118, Tryd.ntmps118
   go_wp2
   go_ret
   exact ⟨by first | rfl | (simp [errW_none, errW_some] <;> rfl) | (simp [*, errW_none, errW_some] <;> rfl), by repeat (with_reducible first | exact HB.out | apply bA_ | apply bN_ | apply b1_)⟩
  subst c3
  have H1 := H
  rw [if_pos rfl] at H1
  clear H
  have H := H1
  clear H1
  replace H := Option.bind_eq_some_iff.mp H
  obtain ⟨t218, A40, H⟩ := H
  replace H : (some t218) = some r := H
  have A4 := Ad_.mk A40
  clear A40
  obtain rfl := Option.some.inj H
  go_enter Tryd.func118, Tryd.ntmps118
  go_wp2_with (first | ((with_reducible refine gC_ (f := 135) rfl ?_); refine gM_ (some 7) rfl rfl Tryd.func135 (by kernel_rfl) rfl #[.string a0] rfl ?_; (with_reducible refine (impl_isName.calls k a0 t218 _ A4.out).mono ?_); rintro e w5 ⟨rfl, hb⟩; refine ⟨_, rfl, ?_⟩; have n0_ := Ad_.mk (bP_ (by repeat (with_reducible first | exact HB.out | apply bA_ | apply bN_ | apply b1_)) hb); clear HB; have HB := n0_; clear n0_; (try clear hb); (try clear hb2); (try clear hk); (try clear hi)))
  go_ret
  exact ⟨by first | rfl | (simp [errW_none, errW_some] <;> rfl) | (simp [*, errW_none, errW_some] <;> rfl), by repeat (with_reducible first | exact HB.out | apply bA_ | apply bN_ | apply b1_)⟩
def impl_namesOf.j0 : Nat → Int → Bool → Option (Int)
  | 0, _, _ => none
  | k + 1, x3, x4 => if x4 = true then (some 1) else (if x3 = 6 then (some 2) else (if x3 = 14 then (some 2) else (some 0)))
def impl_namesOf.f (k : Nat) (a0 : Int) : Option (Int) := if a0 = 1 then (impl_namesOf.j0 k a0 (a0 == 1)) else (if a0 = 3 then (impl_namesOf.j0 k a0 (a0 == 3)) else (if a0 = 5 then (impl_namesOf.j0 k a0 (a0 == 5)) else (impl_namesOf.j0 k a0 (a0 == 19))))
theorem impl_namesOf.mono_l : ∀ k, (∀ y0 y1, LeO (impl_namesOf.j0 k y0 y1) (impl_namesOf.j0 (k + 1) y0 y1))
  | 0 => fun _ _ r h => by simp [impl_namesOf.j0] at h
  | k + 1 => by
    have ih0 := impl_namesOf.mono_l k
    · intro y0 y1
      unfold impl_namesOf.j0
      repeat' first
      | (with_reducible exact ih0 _ _)
      | (with_reducible exact LeO.refl _)
      | (with_reducible exact LeO.none _)
      | (with_reducible refine LeO.ite ?_ ?_)
      | (with_reducible refine LeO.bind ?_ (fun _ => ?_))
      | exact LeO.none _
      | refine LeO.ite ?_ ?_
      | refine LeO.bind ?_ (fun _ => ?_)
theorem impl_namesOf.mono : ∀ a0 k, LeO (impl_namesOf.f k a0) (impl_namesOf.f (k + 1) a0) := by
  intro a0 k
  have ih0 := impl_namesOf.mono_l k
  unfold impl_namesOf.f
  repeat' first
      | (with_reducible exact ih0 _ _)
      | (with_reducible exact LeO.refl _)
      | (with_reducible exact LeO.none _)
      | (with_reducible refine LeO.ite ?_ ?_)
      | (with_reducible refine LeO.bind ?_ (fun _ => ?_))
      | exact LeO.none _
      | refine LeO.ite ?_ ?_
      | refine LeO.bind ?_ (fun _ => ?_)
set_option maxHeartbeats 8000000 in
set_option maxRecDepth 100000 in
theorem impl_namesOf.calls (k : Nat) (a0 : Int) (r : Int) (w : World) (h : impl_namesOf.f k a0 = some r) :
    Calls Tryd.prog 119 #[.int .i64 a0] w fun e w' => e = .returned (.int .i64 r) ∧ Drawn0 w w' := by
  have H := h
  unfold impl_namesOf.f at H
  clear h
  have HC2 := Ad_.mk H
  clear H
  go_enter Tryd.func119, Tryd.ntmps119
  go_upto_if 4 with (fail)
  go_cut [4] (fun v4 wc => ∃ (kq : Nat) (x4_1 : Bool), v4 = .bool x4_1 ∧ Ad_ (impl_namesOf.j0 kq a0 x4_1 = some r) ∧ Ad_ (kq ≤ k) ∧ Drawn0 w wc)
  case first =>
    have H := HC2.out
    clear HC2
    by_cases c3 : a0 = 1
    ·
     rw [if_pos c3] at H
     have c3b0 : (a0 == 1) = true := beq_iff_eq.mpr c3
     have c3b1 : (a0 != 1) = false := bne_eq_false_iff_eq.mpr c3
     clear c3
     (first | rw [c3b0] | (simp only [i64_w, i32_w]; rw [c3b0]) | skip)
     have H' := Ad_.mk H
     clear H
     go_wp2
     go_meet
     case rel => exact ⟨_, ((a0 == 1)), fs_, H', ⟨by first | omega | exact Nat.le_refl _⟩, by repeat (first | exact Drawn0.refl _ | apply Drawn0.step)⟩
    rw [if_neg c3] at H
    have c3b0 : (a0 == 1) = false := beq_eq_false_iff_ne.mpr c3
    have c3b1 : (a0 != 1) = true := bne_iff_ne.mpr c3
    (first | rw [c3b0] | (simp only [i64_w, i32_w]; rw [c3b0]) | skip)
    by_cases c4 : a0 = 3
    ·
     rw [if_pos c4] at H
     have c4b0 : (a0 == 3) = true := beq_iff_eq.mpr c4
     have c4b1 : (a0 != 3) = false := bne_eq_false_iff_eq.mpr c4
     clear c4
     have H' := Ad_.mk H
     clear H
     go_wp2
     go_meet
     case rel => exact ⟨_, ((a0 == 3)), fs_, H', ⟨by first | omega | exact Nat.le_refl _⟩, by repeat (first | exact Drawn0.refl _ | apply Drawn0.step)⟩
    rw [if_neg c4] at H
    have c4b0 : (a0 == 3) = false := beq_eq_false_iff_ne.mpr c4
    have c4b1 : (a0 != 3) = true := bne_iff_ne.mpr c4
    by_cases c5 : a0 = 5
    rotate_left
    ·
     rw [if_neg c5] at H
     have c5b0 : (a0 == 5) = false := beq_eq_false_iff_ne.mpr c5
     have c5b1 : (a0 != 5) = true := bne_iff_ne.mpr c5
     have H' := Ad_.mk H
     clear H
     go_wp2
     go_meet
     case rel => exact ⟨_, ((a0 == 19)), fs_, H', ⟨by first | omega | exact Nat.le_refl _⟩, by repeat (first | exact Drawn0.refl _ | apply Drawn0.step)⟩
    rw [if_pos c5] at H
    have c5b0 : (a0 == 5) = true := beq_iff_eq.mpr c5
    have c5b1 : (a0 != 5) = false := bne_eq_false_iff_eq.mpr c5
    clear c5
    have H' := Ad_.mk H
    clear H
    go_wp2
    go_meet
    case rel => exact ⟨_, ((a0 == 5)), fs_, H', ⟨by first | omega | exact Nat.le_refl _⟩, by repeat (first | exact Drawn0.refl _ | apply Drawn0.step)⟩
  case rest =>
    clear HC2
    try clear p2
    try clear c3b0 c3b1
    try clear c4b0 c4b1
    try clear c5b0 c5b1
    obtain ⟨kq, x4_1, rfl, HA, HJ1, ⟨mc1, rfl⟩⟩ := hcut
    cases kq with
    | zero => exact absurd HA.out (by simp [impl_namesOf.j0])
    | succ kj1 =>
      have H := HA.out
      clear HA
      simp only [impl_namesOf.j0] at H
      by_cases c6 : x4_1 = true
      ·
       subst c6
       have H1 : (some 1) = some r := by rw [if_pos rfl] at H; exact H
       clear H
       have H := H1
       clear H1
       obtain rfl := Option.some.inj H
       go_wp2
       go_ret
       exact ⟨by first | rfl | (simp; done) | (simp [*]; done), by repeat (first | exact Drawn0.refl _ | apply Drawn0.step)⟩
      replace c6 := Bool.eq_false_iff.mpr c6
      subst c6
      have H1 : (if a0 = 6 then (some 2) else (if a0 = 14 then (some 2) else (some 0))) = some r := by rw [if_neg (show ¬ (false = true) by decide)] at H; exact H
      clear H
      have H := H1
      clear H1
      by_cases c7 : a0 = 6
      ·
       rw [if_pos c7] at H
       have c7b0 : (a0 == 6) = true := beq_iff_eq.mpr c7
       have c7b1 : (a0 != 6) = false := bne_eq_false_iff_eq.mpr c7
       clear c7
       obtain rfl := Option.some.inj H
       go_wp2
       go_ret
       exact ⟨by first | rfl | (simp; done) | (simp [*]; done), by repeat (first | exact Drawn0.refl _ | apply Drawn0.step)⟩
      rw [if_neg c7] at H
      have c7b0 : (a0 == 6) = false := beq_eq_false_iff_ne.mpr c7
      have c7b1 : (a0 != 6) = true := bne_iff_ne.mpr c7
      by_cases c8 : a0 = 14
      rotate_left
      ·
       rw [if_neg c8] at H
       have c8b0 : (a0 == 14) = false := beq_eq_false_iff_ne.mpr c8
       have c8b1 : (a0 != 14) = true := bne_iff_ne.mpr c8
       obtain rfl := Option.some.inj H
       go_wp2
       go_ret
       exact ⟨by first | rfl | (simp; done) | (simp [*]; done), by repeat (first | exact Drawn0.refl _ | apply Drawn0.step)⟩
      rw [if_pos c8] at H
      have c8b0 : (a0 == 14) = true := beq_iff_eq.mpr c8
      have c8b1 : (a0 != 14) = false := bne_eq_false_iff_eq.mpr c8
      clear c8
      obtain rfl := Option.some.inj H
      go_wp2
      go_ret
      exact ⟨by first | rfl | (simp; done) | (simp [*]; done), by repeat (first | exact Drawn0.refl _ | apply Drawn0.step)⟩
end Go.Proofs.YtfmlamheflbgdaaDoor.PAll
end
section
namespace Go.Proofs.YtfmlamheflbgdaaDoor.PAll
open Go.RowKit Go.Proofs.YtfmlamheflbgdaaDoorW.PrintWords Go.Proofs.YtfmlamheflbgdaaDoorW.PrintLast Go.Proofs.YtfmlamheflbgdaaDoorW.PrintMore
attribute [local go_sem] max2_int min2_int max_two min_two max_three min_three max_four min_four
set_option linter.unusedVariables false
set_option linter.unusedSimpArgs false
mutual
def impl_fieldsOk.j0 : Nat → Bool → Int → Int → Int → Int → Int → ByteArray → ByteArray → Option (Bool)
  | 0, _, _, _, _, _, _, _, _ => none
  | k + 1, x28, x220000, x220001, x220002, x220003, x220004, x220005, x220006 => if x28 = true then (some false) else ((some (([x220001, x220002, x220003] : List Int) : List Int)).bind fun y225 => (impl_fieldsOk.l0 k y225 (y225.length : Int) 0 x220000 x220001 x220002 x220003 x220004 x220005 x220006))
def impl_fieldsOk.l0 : Nat → List Int → Int → Int → Int → Int → Int → Int → Int → ByteArray → ByteArray → Option (Bool)
  | 0, _, _, _, _, _, _, _, _, _, _ => none
  | k + 1, x35, x36, x37, x220000, x220001, x220002, x220003, x220004, x220005, x220006 => if x37 < x36 then (if 0 ≤ x37 then (if x37 < (x35.length : Int) then ((impl_Arity.f k x220000).bind fun t229 => (if x37 ≥ t229 then (if (rd x35 x37) = 0 then (impl_fieldsOk.l0 k x35 x36 (wrap64 (x37 + 1)) x220000 x220001 x220002 x220003 x220004 x220005 x220006) else (some false)) else (impl_fieldsOk.l0 k x35 x36 (wrap64 (x37 + 1)) x220000 x220001 x220002 x220003 x220004 x220005 x220006))) else (none)) else (none)) else (if x220000 = 2 then ((impl_in.f x220004 0 65535).bind fun t230 => (some t230)) else (if x220000 = 8 then ((impl_in.f x220004 0 3).bind fun t231 => (some t231)) else (some (x220004 == 0))))
end
def impl_fieldsOk.f (k : Nat) (a0_0 : Int) (a0_1 : Int) (a0_2 : Int) (a0_3 : Int) (a0_4 : Int) (a0_5 : ByteArray) (a0_6 : ByteArray) : Option (Bool) := (impl_in.f a0_0 1 19).bind fun t220 => (if t220 = true then ((impl_namesOf.f k a0_0).bind fun t221 => ((impl_nameFits.f k a0_5 (decide (t221 > 0))).bind fun t222 => (if t222 = true then ((impl_namesOf.f k a0_0).bind fun t223 => ((impl_nameFits.f k a0_6 (decide (t223 > 1))).bind fun t224 => (impl_fieldsOk.j0 k (!t224) a0_0 a0_1 a0_2 a0_3 a0_4 a0_5 a0_6))) else (impl_fieldsOk.j0 k true a0_0 a0_1 a0_2 a0_3 a0_4 a0_5 a0_6)))) else (impl_fieldsOk.j0 k true a0_0 a0_1 a0_2 a0_3 a0_4 a0_5 a0_6))
theorem impl_fieldsOk.mono_l : ∀ k, (∀ y0 y1 y2 y3 y4 y5 y6 y7, LeO (impl_fieldsOk.j0 k y0 y1 y2 y3 y4 y5 y6 y7) (impl_fieldsOk.j0 (k + 1) y0 y1 y2 y3 y4 y5 y6 y7)) ∧ (∀ y0 y1 y2 y3 y4 y5 y6 y7 y8 y9, LeO (impl_fieldsOk.l0 k y0 y1 y2 y3 y4 y5 y6 y7 y8 y9) (impl_fieldsOk.l0 (k + 1) y0 y1 y2 y3 y4 y5 y6 y7 y8 y9))
  | 0 => ⟨fun _ _ _ _ _ _ _ _ r h => by simp [impl_fieldsOk.j0] at h, fun _ _ _ _ _ _ _ _ _ _ r h => by simp [impl_fieldsOk.l0] at h⟩
  | k + 1 => by
    obtain ⟨ih0, ih1⟩ := impl_fieldsOk.mono_l k
    refine ⟨?_, ?_⟩
    (intro y0 y1 y2 y3 y4 y5 y6 y7; unfold impl_fieldsOk.j0; rotate_left)
    (intro y0 y1 y2 y3 y4 y5 y6 y7 y8 y9; unfold impl_fieldsOk.l0; rotate_left)
    all_goals
      repeat' first
      | (with_reducible exact ih0 _ _ _ _ _ _ _ _)
      | (with_reducible exact ih1 _ _ _ _ _ _ _ _ _ _)
      | (with_reducible exact impl_Arity.mono _ _)
      | (with_reducible exact impl_nameFits.mono _ _ _)
      | (with_reducible exact impl_namesOf.mono _ _)
      | (with_reducible exact LeO.refl _)
      | (with_reducible exact LeO.none _)
      | (with_reducible refine LeO.ite ?_ ?_)
      | (with_reducible refine LeO.bind ?_ (fun _ => ?_))
      | exact LeO.none _
      | refine LeO.ite ?_ ?_
      | refine LeO.bind ?_ (fun _ => ?_)
theorem impl_fieldsOk.mono : ∀ a0 a1 a2 a3 a4 a5 a6 k, LeO (impl_fieldsOk.f k a0 a1 a2 a3 a4 a5 a6) (impl_fieldsOk.f (k + 1) a0 a1 a2 a3 a4 a5 a6) := by
  intro a0 a1 a2 a3 a4 a5 a6 k
  obtain ⟨ih0, ih1⟩ := impl_fieldsOk.mono_l k
  unfold impl_fieldsOk.f
  repeat' first
      | (with_reducible exact ih0 _ _ _ _ _ _ _ _)
      | (with_reducible exact ih1 _ _ _ _ _ _ _ _ _ _)
      | (with_reducible exact impl_Arity.mono _ _)
      | (with_reducible exact impl_nameFits.mono _ _ _)
      | (with_reducible exact impl_namesOf.mono _ _)
      | (with_reducible exact LeO.refl _)
      | (with_reducible exact LeO.none _)
      | (with_reducible refine LeO.ite ?_ ?_)
      | (with_reducible refine LeO.bind ?_ (fun _ => ?_))
      | exact LeO.none _
      | refine LeO.ite ?_ ?_
      | refine LeO.bind ?_ (fun _ => ?_)
def impl_fieldsOk.T1 : Bool × List (List Nat × List Nat) := (true, [([], []), ([0], [0]), ([1], [1]), ([2], [2]), ([3, 2], [3]), ([4], [4]), ([5, 4], [4, 5]), ([4], [4]), ([7, 4], [4, 7]), ([8, 4, 4], [4, 8]), ([9, 4], [4, 9]), ([6, 10, 9, 4], [4, 6, 10]), ([11, 4], [4, 11]), ([4, 12], [4, 12]), ([13, 11], [13]), ([14], [14]), ([15, 14], [14, 15]), ([14], [14]), ([17, 14], [14, 17]), ([18, 14, 14], [14, 18]), ([19, 14], [14, 19]), ([16, 20, 19, 14], [14, 16, 20]), ([21, 14], [14, 21]), ([14, 22], [14, 22])])
def impl_fieldsOk.B1 : List Nat := [0, 1, 3, 7, 15, 31, 63, 31, 159, 415, 927, 2047, 4095, 8191, 16383, 32767, 65535, 32767, 163839, 425983, 950271, 2097151, 4194303, 8388607]
theorem impl_fieldsOk.tab1 : rtab .any (opsOf Tryd.f93 1) = impl_fieldsOk.T1 := by kernel_rfl
theorem impl_fieldsOk.bits1 : waitsOk impl_fieldsOk.T1.2 impl_fieldsOk.B1 = true := by kernel_rfl
set_option maxHeartbeats 8000000 in
set_option maxRecDepth 100000 in
theorem impl_fieldsOk.calls (k : Nat) (a0_0 : Int) (a0_1 : Int) (a0_2 : Int) (a0_3 : Int) (a0_4 : Int) (a0_5 : ByteArray) (a0_6 : ByteArray) (r : Bool) (w : World) (h : impl_fieldsOk.f k a0_0 a0_1 a0_2 a0_3 a0_4 a0_5 a0_6 = some r) :
    Calls Tryd.prog 93 #[.agg #[.int .i64 a0_0, .int .i64 a0_1, .int .i64 a0_2, .int .i64 a0_3, .int .i64 a0_4, .string a0_5, .string a0_6]] w fun e w' => e = .returned (.bool r) ∧ Below w.heap.size w w' := by
  have hu55 := Tryd.underlying55
  have HB := Ad_.mk (Below.refl w.heap.size w)
  have H := h
  unfold impl_fieldsOk.f at H
  clear h
  have HC2 := Ad_.mk H
  clear H
  go_enter Tryd.func93, Tryd.ntmps93
  go_upto_region 1 with (first | ((with_reducible refine gD_ (N := 1) rfl ?_); refine bE_ ?hg (N := 1) ?hd (cs := #[.int .i64 a0_0, .int .i64 a0_1, .int .i64 a0_2, .int .i64 a0_3, .int .i64 a0_4, .string a0_5, .string a0_6]) (t := 55) ?hr ?_; (case hd => rfl); (case hg => rfl); (case hr => first | (go_simp; done) | (go_simp; rfl)); intro gb219 hg w3 hbox hb; have n0_ := Ad_.mk (bP_ (by repeat (with_reducible first | exact HB.out | apply bA_ | apply bN_ | apply b1_)) hb); have n1_ := Ad_.mk (hbox); have n2_ := Ad_.mk ((by rw [hg]; exact (bZ_ (by repeat (with_reducible first | exact HB.out | apply bA_ | apply bN_ | apply b1_))) : w.heap.size ≤ gb219)); have n3_ := Ad_.mk ((by rw [hg]; exact (bZ_ (by repeat (with_reducible first | exact HB.out | apply bA_ | apply bN_ | apply b1_))) : w.heap.size ≤ gb219)); clear HB; have HB := n0_; have BK219 := n1_; have GW219 := n2_; have GE219 := n3_; clear n0_ n1_ n2_ n3_; clear hb hbox hg))
  (try simp only [Act.put, List.setIfInBounds_toArray, List.set_cons_zero, List.set_cons_succ])
  go_cut [28] (fun v28 wc => ∃ (kq : Nat) (x28_1 : Bool), v28 = .bool x28_1 ∧ Ad_ (impl_fieldsOk.j0 kq x28_1 a0_0 a0_1 a0_2 a0_3 a0_4 a0_5 a0_6 = some r) ∧ Ad_ (kq ≤ k) ∧ Ad_ (wc.heap[gb219]? = some (.cells #[.int .i64 a0_0, .int .i64 a0_1, .int .i64 a0_2, .int .i64 a0_3, .int .i64 a0_4, .string a0_5, .string a0_6] 55 (0, 0))) ∧ Ad_ (Below w.heap.size w wc))
  case first =>
    have H := HC2.out
    clear HC2
    replace H := Option.bind_eq_some_iff.mp H
    obtain ⟨t220, A40, H⟩ := H
    try dsimp only at H
    have A4 := Ad_.mk A40
    clear A40
    by_cases c5 : t220 = true
    rotate_left
    ·
     replace c5 := Bool.eq_false_iff.mpr c5
     subst c5
     have H1 : (impl_fieldsOk.j0 k true a0_0 a0_1 a0_2 a0_3 a0_4 a0_5 a0_6) = some r := by rw [if_neg (show ¬ (false = true) by decide)] at H; exact H
     clear H
     have H := H1
     clear H1
     have H' := Ad_.mk H
     clear H
     try go_wp2
     have n0_ := Ad_.mk (k1_ BK219.out)
     have n1_ := Ad_.mk (b1_ HB.out)
     clear BK219
     clear HB
     have BK219 := n0_
     have HB := n1_
     clear n0_ n1_
     refine start_ (n := 24) (S := fun w' => w'.cell? ⟨gb219, 0, none⟩ = some (.int .i64 a0_0) ∧ w'.cell? ⟨gb219, 1, none⟩ = some (.int .i64 a0_1) ∧ w'.cell? ⟨gb219, 2, none⟩ = some (.int .i64 a0_2) ∧ w'.cell? ⟨gb219, 3, none⟩ = some (.int .i64 a0_3) ∧ w'.cell? ⟨gb219, 4, none⟩ = some (.int .i64 a0_4) ∧ w'.cell? ⟨gb219, 5, none⟩ = some (.string a0_5) ∧ w'.cell? ⟨gb219, 6, none⟩ = some (.string a0_6)) (ds := []) #[fb_,fb_,fb_,fb_,fb_,fb_,fb_,fb_,fb_,fb_,fb_,fb_,fb_,fb_,fb_,fb_,fb_,fb_,fb_,fb_,fb_,fb_,fb_,fb_] (by kernel_rfl) rfl rfl ⟨(kC_ BK219.out 0).trans rfl, (kC_ BK219.out 1).trans rfl, (kC_ BK219.out 2).trans rfl, (kC_ BK219.out 3).trans rfl, (kC_ BK219.out 4).trans rfl, (kC_ BK219.out 5).trans rfl, (kC_ BK219.out 6).trans rfl⟩ (fun hHeld => ?_); refine with_tabW impl_fieldsOk.tab1 impl_fieldsOk.bits1 (fun HT_ HW_ => ?_)
     generalize w3.drew = w16 at BK219 HB hHeld ⊢
     refine pure_ (i := 0) (N := some 5) (v := ?_) (a' := ?_) #[tb_,fb_,fb_,fb_,fb_,fb_,fb_,fb_,fb_,fb_,fb_,fb_,fb_,fb_,fb_,fb_,fb_,fb_,fb_,fb_,fb_,fb_,fb_,fb_] rfl rfl (any_of HT_.out (by kernel_rfl)) (fun _ _ _ h => h) (Or.inl ⟨by rfl, ?_⟩) ?_ ?_
     rotate_left
     ·
      intro w'
      go_simp
      with_reducible rfl
     rotate_left
     ·
      simp only [Act.put, List.setIfInBounds_toArray, List.set_cons_zero, List.set_cons_succ, i64_w, i32_w]
      rfl
     refine take_ (i := 1) (N := some 6) (v := ?_) (a' := ?_) #[tb_,tb_,fb_,fb_,fb_,fb_,fb_,fb_,fb_,fb_,fb_,fb_,fb_,fb_,fb_,fb_,fb_,fb_,fb_,fb_,fb_,fb_,fb_,fb_] rfl rfl (take_ofW HT_.out HW_.out (by kernel_rfl)) (fun _ _ _ h => h) (Or.inl ⟨by rfl, ?_⟩) hHeld ?_ ?_
     rotate_left
     ·
      rintro w' ⟨s0, s1, s2, s3, s4, s5, s6⟩
      go_simp
      with_reducible rfl
     rotate_left
     ·
      simp only [Act.put, List.setIfInBounds_toArray, List.set_cons_zero, List.set_cons_succ, i64_w, i32_w]
      rfl
     refine one_ (i := 2) (N := some 7) #[tb_,tb_,tb_,fb_,fb_,fb_,fb_,fb_,fb_,fb_,fb_,fb_,fb_,fb_,fb_,fb_,fb_,fb_,fb_,fb_,fb_,fb_,fb_,fb_] rfl rfl (one_of HT_.out (by kernel_rfl)) (by decide) (fun K hK => ?_)
     refine goes_ Tryd.func71 (by kernel_rfl) rfl #[.int .i64 a0_0, .int .i64 1, .int .i64 19] (by rfl) rfl rfl (by (try simp only [List.map_toArray, List.map_cons, List.map_nil]); first | done | rfl | (simp only [List.length_drop, List.length_take]; rfl)) ?_
     with_reducible refine (impl_in.calls a0_0 1 19 false _ A4.out).mono ?_
     rintro e w' ⟨rfl, ⟨nd, rfl⟩⟩
     refine ⟨_, rfl, ?_⟩
     refine hK.out _ _ ⟨(kC_ BK219.out 0).trans rfl, (kC_ BK219.out 1).trans rfl, (kC_ BK219.out 2).trans rfl, (kC_ BK219.out 3).trans rfl, (kC_ BK219.out 4).trans rfl, (kC_ BK219.out 5).trans rfl, (kC_ BK219.out 6).trans rfl⟩ (fun hHeld => ?_)
     clear hK K
     refine norm_ (a' := ?_) ?_ ?_
     rotate_left
     ·
      show Act.put _ (some 7) _ = _
      simp only [Act.put, List.setIfInBounds_toArray, List.set_cons_zero, List.set_cons_succ, i64_w, i32_w]
      rfl
     refine pure_ (i := 3) (N := some 8) (v := ?_) (a' := ?_) #[tb_,tb_,tb_,tb_,fb_,fb_,fb_,fb_,fb_,fb_,fb_,fb_,fb_,fb_,fb_,fb_,fb_,fb_,fb_,fb_,fb_,fb_,fb_,fb_] rfl rfl (any_of HT_.out (by kernel_rfl)) (fun _ _ _ h => h) (Or.inl ⟨by rfl, ?_⟩) ?_ ?_
     rotate_left
     ·
      intro w'
      go_simp
      with_reducible rfl
     rotate_left
     ·
      simp only [Act.put, List.setIfInBounds_toArray, List.set_cons_zero, List.set_cons_succ, i64_w, i32_w]
      rfl
     refine pure_ (i := 4) (N := some 9) (v := ?_) (a' := ?_) #[tb_,tb_,tb_,tb_,tb_,fb_,fb_,fb_,fb_,fb_,fb_,fb_,fb_,fb_,fb_,fb_,fb_,fb_,fb_,fb_,fb_,fb_,fb_,fb_] rfl rfl (any_of HT_.out (by kernel_rfl)) (fun _ _ _ h => h) (Or.inl ⟨by rfl, ?_⟩) ?_ ?_
     rotate_left
     ·
      intro w'
      go_simp
      with_reducible rfl
     rotate_left
     ·
      simp only [Act.put, List.setIfInBounds_toArray, List.set_cons_zero, List.set_cons_succ, i64_w, i32_w]
      rfl
     refine pure_ (i := 5) (N := some 10) (v := undef) (a' := ?_) #[tb_,tb_,tb_,tb_,tb_,tb_,fb_,fb_,fb_,fb_,fb_,fb_,fb_,fb_,fb_,fb_,fb_,fb_,fb_,fb_,fb_,fb_,fb_,fb_] rfl rfl (any_of HT_.out (by kernel_rfl)) (fun _ _ _ h => h) (Or.inr ⟨by rfl, rfl⟩) ?_ ?_
     rotate_left
     ·
      simp only [Act.put, List.setIfInBounds_toArray, List.set_cons_zero, List.set_cons_succ, i64_w, i32_w]
      rfl
     refine pure_ (i := 6) (N := some 11) (v := undef) (a' := ?_) #[tb_,tb_,tb_,tb_,tb_,tb_,tb_,fb_,fb_,fb_,fb_,fb_,fb_,fb_,fb_,fb_,fb_,fb_,fb_,fb_,fb_,fb_,fb_,fb_] rfl rfl (any_of HT_.out (by kernel_rfl)) (fun _ _ _ h => h) (Or.inr ⟨by rfl, rfl⟩) ?_ ?_
     rotate_left
     ·
      simp only [Act.put, List.setIfInBounds_toArray, List.set_cons_zero, List.set_cons_succ, i64_w, i32_w]
      rfl
     refine pure_ (i := 7) (N := some 12) (v := undef) (a' := ?_) #[tb_,tb_,tb_,tb_,tb_,tb_,tb_,tb_,fb_,fb_,fb_,fb_,fb_,fb_,fb_,fb_,fb_,fb_,fb_,fb_,fb_,fb_,fb_,fb_] rfl rfl (any_of HT_.out (by kernel_rfl)) (fun _ _ _ h => h) (Or.inr ⟨by rfl, rfl⟩) ?_ ?_
     rotate_left
     ·
      simp only [Act.put, List.setIfInBounds_toArray, List.set_cons_zero, List.set_cons_succ, i64_w, i32_w]
      rfl
     refine pure_ (i := 8) (N := some 13) (v := undef) (a' := ?_) #[tb_,tb_,tb_,tb_,tb_,tb_,tb_,tb_,tb_,fb_,fb_,fb_,fb_,fb_,fb_,fb_,fb_,fb_,fb_,fb_,fb_,fb_,fb_,fb_] rfl rfl (any_of HT_.out (by kernel_rfl)) (fun _ _ _ h => h) (Or.inr ⟨by rfl, rfl⟩) ?_ ?_
     rotate_left
     ·
      simp only [Act.put, List.setIfInBounds_toArray, List.set_cons_zero, List.set_cons_succ, i64_w, i32_w]
      rfl
     refine pure_ (i := 9) (N := some 14) (v := undef) (a' := ?_) #[tb_,tb_,tb_,tb_,tb_,tb_,tb_,tb_,tb_,tb_,fb_,fb_,fb_,fb_,fb_,fb_,fb_,fb_,fb_,fb_,fb_,fb_,fb_,fb_] rfl rfl (any_of HT_.out (by kernel_rfl)) (fun _ _ _ h => h) (Or.inr ⟨by rfl, rfl⟩) ?_ ?_
     rotate_left
     ·
      simp only [Act.put, List.setIfInBounds_toArray, List.set_cons_zero, List.set_cons_succ, i64_w, i32_w]
      rfl
     refine pure_ (i := 10) (N := some 15) (v := undef) (a' := ?_) #[tb_,tb_,tb_,tb_,tb_,tb_,tb_,tb_,tb_,tb_,tb_,fb_,fb_,fb_,fb_,fb_,fb_,fb_,fb_,fb_,fb_,fb_,fb_,fb_] rfl rfl (any_of HT_.out (by kernel_rfl)) (fun _ _ _ h => h) (Or.inr ⟨by rfl, rfl⟩) ?_ ?_
     rotate_left
     ·
      simp only [Act.put, List.setIfInBounds_toArray, List.set_cons_zero, List.set_cons_succ, i64_w, i32_w]
      rfl
     refine pure_ (i := 11) (N := some 16) (v := undef) (a' := ?_) #[tb_,tb_,tb_,tb_,tb_,tb_,tb_,tb_,tb_,tb_,tb_,tb_,fb_,fb_,fb_,fb_,fb_,fb_,fb_,fb_,fb_,fb_,fb_,fb_] rfl rfl (any_of HT_.out (by kernel_rfl)) (fun _ _ _ h => h) (Or.inr ⟨by rfl, rfl⟩) ?_ ?_
     rotate_left
     ·
      simp only [Act.put, List.setIfInBounds_toArray, List.set_cons_zero, List.set_cons_succ, i64_w, i32_w]
      rfl
     refine pure_ (i := 12) (N := some 17) (v := undef) (a' := ?_) #[tb_,tb_,tb_,tb_,tb_,tb_,tb_,tb_,tb_,tb_,tb_,tb_,tb_,fb_,fb_,fb_,fb_,fb_,fb_,fb_,fb_,fb_,fb_,fb_] rfl rfl (any_of HT_.out (by kernel_rfl)) (fun _ _ _ h => h) (Or.inr ⟨by rfl, rfl⟩) ?_ ?_
     rotate_left
     ·
      simp only [Act.put, List.setIfInBounds_toArray, List.set_cons_zero, List.set_cons_succ, i64_w, i32_w]
      rfl
     refine pure_ (i := 13) (N := some 18) (v := ?_) (a' := ?_) #[tb_,tb_,tb_,tb_,tb_,tb_,tb_,tb_,tb_,tb_,tb_,tb_,tb_,tb_,fb_,fb_,fb_,fb_,fb_,fb_,fb_,fb_,fb_,fb_] rfl rfl (any_of HT_.out (by kernel_rfl)) (fun _ _ _ h => h) (Or.inl ⟨by rfl, ?_⟩) ?_ ?_
     rotate_left
     ·
      intro w'
      go_simp
      with_reducible rfl
     rotate_left
     ·
      simp only [Act.put, List.setIfInBounds_toArray, List.set_cons_zero, List.set_cons_succ, i64_w, i32_w]
      rfl
     refine pure_ (i := 14) (N := some 19) (v := ?_) (a' := ?_) #[tb_,tb_,tb_,tb_,tb_,tb_,tb_,tb_,tb_,tb_,tb_,tb_,tb_,tb_,tb_,fb_,fb_,fb_,fb_,fb_,fb_,fb_,fb_,fb_] rfl rfl (any_of HT_.out (by kernel_rfl)) (fun _ _ _ h => h) (Or.inl ⟨by rfl, ?_⟩) ?_ ?_
     rotate_left
     ·
      intro w'
      go_simp
      with_reducible rfl
     rotate_left
     ·
      simp only [Act.put, List.setIfInBounds_toArray, List.set_cons_zero, List.set_cons_succ, i64_w, i32_w]
      rfl
     refine pure_ (i := 15) (N := some 20) (v := undef) (a' := ?_) #[tb_,tb_,tb_,tb_,tb_,tb_,tb_,tb_,tb_,tb_,tb_,tb_,tb_,tb_,tb_,tb_,fb_,fb_,fb_,fb_,fb_,fb_,fb_,fb_] rfl rfl (any_of HT_.out (by kernel_rfl)) (fun _ _ _ h => h) (Or.inr ⟨by rfl, rfl⟩) ?_ ?_
     rotate_left
     ·
      simp only [Act.put, List.setIfInBounds_toArray, List.set_cons_zero, List.set_cons_succ, i64_w, i32_w]
      rfl
     refine pure_ (i := 16) (N := some 21) (v := undef) (a' := ?_) #[tb_,tb_,tb_,tb_,tb_,tb_,tb_,tb_,tb_,tb_,tb_,tb_,tb_,tb_,tb_,tb_,tb_,fb_,fb_,fb_,fb_,fb_,fb_,fb_] rfl rfl (any_of HT_.out (by kernel_rfl)) (fun _ _ _ h => h) (Or.inr ⟨by rfl, rfl⟩) ?_ ?_
     rotate_left
     ·
      simp only [Act.put, List.setIfInBounds_toArray, List.set_cons_zero, List.set_cons_succ, i64_w, i32_w]
      rfl
     refine pure_ (i := 17) (N := some 22) (v := undef) (a' := ?_) #[tb_,tb_,tb_,tb_,tb_,tb_,tb_,tb_,tb_,tb_,tb_,tb_,tb_,tb_,tb_,tb_,tb_,tb_,fb_,fb_,fb_,fb_,fb_,fb_] rfl rfl (any_of HT_.out (by kernel_rfl)) (fun _ _ _ h => h) (Or.inr ⟨by rfl, rfl⟩) ?_ ?_
     rotate_left
     ·
      simp only [Act.put, List.setIfInBounds_toArray, List.set_cons_zero, List.set_cons_succ, i64_w, i32_w]
      rfl
     refine pure_ (i := 18) (N := some 23) (v := undef) (a' := ?_) #[tb_,tb_,tb_,tb_,tb_,tb_,tb_,tb_,tb_,tb_,tb_,tb_,tb_,tb_,tb_,tb_,tb_,tb_,tb_,fb_,fb_,fb_,fb_,fb_] rfl rfl (any_of HT_.out (by kernel_rfl)) (fun _ _ _ h => h) (Or.inr ⟨by rfl, rfl⟩) ?_ ?_
     rotate_left
     ·
      simp only [Act.put, List.setIfInBounds_toArray, List.set_cons_zero, List.set_cons_succ, i64_w, i32_w]
      rfl
     refine pure_ (i := 19) (N := some 24) (v := undef) (a' := ?_) #[tb_,tb_,tb_,tb_,tb_,tb_,tb_,tb_,tb_,tb_,tb_,tb_,tb_,tb_,tb_,tb_,tb_,tb_,tb_,tb_,fb_,fb_,fb_,fb_] rfl rfl (any_of HT_.out (by kernel_rfl)) (fun _ _ _ h => h) (Or.inr ⟨by rfl, rfl⟩) ?_ ?_
     rotate_left
     ·
      simp only [Act.put, List.setIfInBounds_toArray, List.set_cons_zero, List.set_cons_succ, i64_w, i32_w]
      rfl
     refine pure_ (i := 20) (N := some 25) (v := undef) (a' := ?_) #[tb_,tb_,tb_,tb_,tb_,tb_,tb_,tb_,tb_,tb_,tb_,tb_,tb_,tb_,tb_,tb_,tb_,tb_,tb_,tb_,tb_,fb_,fb_,fb_] rfl rfl (any_of HT_.out (by kernel_rfl)) (fun _ _ _ h => h) (Or.inr ⟨by rfl, rfl⟩) ?_ ?_
     rotate_left
     ·
      simp only [Act.put, List.setIfInBounds_toArray, List.set_cons_zero, List.set_cons_succ, i64_w, i32_w]
      rfl
     refine pure_ (i := 21) (N := some 26) (v := undef) (a' := ?_) #[tb_,tb_,tb_,tb_,tb_,tb_,tb_,tb_,tb_,tb_,tb_,tb_,tb_,tb_,tb_,tb_,tb_,tb_,tb_,tb_,tb_,tb_,fb_,fb_] rfl rfl (any_of HT_.out (by kernel_rfl)) (fun _ _ _ h => h) (Or.inr ⟨by rfl, rfl⟩) ?_ ?_
     rotate_left
     ·
      simp only [Act.put, List.setIfInBounds_toArray, List.set_cons_zero, List.set_cons_succ, i64_w, i32_w]
      rfl
     refine pure_ (i := 22) (N := some 27) (v := undef) (a' := ?_) #[tb_,tb_,tb_,tb_,tb_,tb_,tb_,tb_,tb_,tb_,tb_,tb_,tb_,tb_,tb_,tb_,tb_,tb_,tb_,tb_,tb_,tb_,tb_,fb_] rfl rfl (any_of HT_.out (by kernel_rfl)) (fun _ _ _ h => h) (Or.inr ⟨by rfl, rfl⟩) ?_ ?_
     rotate_left
     ·
      simp only [Act.put, List.setIfInBounds_toArray, List.set_cons_zero, List.set_cons_succ, i64_w, i32_w]
      rfl
     refine pure_ (i := 23) (N := some 28) (v := ?_) (a' := ?_) #[tb_,tb_,tb_,tb_,tb_,tb_,tb_,tb_,tb_,tb_,tb_,tb_,tb_,tb_,tb_,tb_,tb_,tb_,tb_,tb_,tb_,tb_,tb_,tb_] rfl rfl (any_of HT_.out (by kernel_rfl)) (fun _ _ _ h => h) (Or.inl ⟨by rfl, ?_⟩) ?_ ?_
     rotate_left
     ·
      intro w'
      go_simp
      with_reducible rfl
     rotate_left
     ·
      simp only [Act.put, List.setIfInBounds_toArray, List.set_cons_zero, List.set_cons_succ, i64_w, i32_w]
      rfl
     refine done_ (done_of HT_.out (by kernel_rfl)) ?_
     try go_wp2
     go_meet
     case rel => exact ⟨_, (true), fs_, H', ⟨by first | omega | exact Nat.le_refl _⟩, ⟨by (with_reducible repeat (first | refine kN_ ?_ _ | refine k1_ ?_ | refine kA_ ?_ _)); exact BK219.out⟩, ⟨by repeat (with_reducible first | exact HB.out | apply bA_ | apply bN_ | apply b1_ | refine bS_ ?_ GE219.out)⟩⟩
    subst c5
    have H1 := H
    rw [if_pos rfl] at H1
    clear H
    have H := H1
    clear H1
    replace H := Option.bind_eq_some_iff.mp H
    obtain ⟨t221, A60, H⟩ := H
    try dsimp only at H
    have A6 := Ad_.mk A60
    clear A60
    replace H := Option.bind_eq_some_iff.mp H
    obtain ⟨t222, A70, H⟩ := H
    try dsimp only at H
    have A7 := Ad_.mk A70
    clear A70
    by_cases c8 : t222 = true
    rotate_left
    ·
     replace c8 := Bool.eq_false_iff.mpr c8
     subst c8
     have H1 : (impl_fieldsOk.j0 k true a0_0 a0_1 a0_2 a0_3 a0_4 a0_5 a0_6) = some r := by rw [if_neg (show ¬ (false = true) by decide)] at H; exact H
     clear H
     have H := H1
     clear H1
     have H' := Ad_.mk H
     clear H
     try go_wp2
     have n0_ := Ad_.mk (k1_ BK219.out)
     have n1_ := Ad_.mk (b1_ HB.out)
     clear BK219
     clear HB
     have BK219 := n0_
     have HB := n1_
     clear n0_ n1_
     refine start_ (n := 24) (S := fun w' => w'.cell? ⟨gb219, 0, none⟩ = some (.int .i64 a0_0) ∧ w'.cell? ⟨gb219, 1, none⟩ = some (.int .i64 a0_1) ∧ w'.cell? ⟨gb219, 2, none⟩ = some (.int .i64 a0_2) ∧ w'.cell? ⟨gb219, 3, none⟩ = some (.int .i64 a0_3) ∧ w'.cell? ⟨gb219, 4, none⟩ = some (.int .i64 a0_4) ∧ w'.cell? ⟨gb219, 5, none⟩ = some (.string a0_5) ∧ w'.cell? ⟨gb219, 6, none⟩ = some (.string a0_6)) (ds := []) #[fb_,fb_,fb_,fb_,fb_,fb_,fb_,fb_,fb_,fb_,fb_,fb_,fb_,fb_,fb_,fb_,fb_,fb_,fb_,fb_,fb_,fb_,fb_,fb_] (by kernel_rfl) rfl rfl ⟨(kC_ BK219.out 0).trans rfl, (kC_ BK219.out 1).trans rfl, (kC_ BK219.out 2).trans rfl, (kC_ BK219.out 3).trans rfl, (kC_ BK219.out 4).trans rfl, (kC_ BK219.out 5).trans rfl, (kC_ BK219.out 6).trans rfl⟩ (fun hHeld => ?_); refine with_tabW impl_fieldsOk.tab1 impl_fieldsOk.bits1 (fun HT_ HW_ => ?_)
     generalize w3.drew = w14 at BK219 HB hHeld ⊢
     refine pure_ (i := 0) (N := some 5) (v := ?_) (a' := ?_) #[tb_,fb_,fb_,fb_,fb_,fb_,fb_,fb_,fb_,fb_,fb_,fb_,fb_,fb_,fb_,fb_,fb_,fb_,fb_,fb_,fb_,fb_,fb_,fb_] rfl rfl (any_of HT_.out (by kernel_rfl)) (fun _ _ _ h => h) (Or.inl ⟨by rfl, ?_⟩) ?_ ?_
     rotate_left
     ·
      intro w'
      go_simp
      with_reducible rfl
     rotate_left
     ·
      simp only [Act.put, List.setIfInBounds_toArray, List.set_cons_zero, List.set_cons_succ, i64_w, i32_w]
      rfl
     refine take_ (i := 1) (N := some 6) (v := ?_) (a' := ?_) #[tb_,tb_,fb_,fb_,fb_,fb_,fb_,fb_,fb_,fb_,fb_,fb_,fb_,fb_,fb_,fb_,fb_,fb_,fb_,fb_,fb_,fb_,fb_,fb_] rfl rfl (take_ofW HT_.out HW_.out (by kernel_rfl)) (fun _ _ _ h => h) (Or.inl ⟨by rfl, ?_⟩) hHeld ?_ ?_
     rotate_left
     ·
      rintro w' ⟨s0, s1, s2, s3, s4, s5, s6⟩
      go_simp
      with_reducible rfl
     rotate_left
     ·
      simp only [Act.put, List.setIfInBounds_toArray, List.set_cons_zero, List.set_cons_succ, i64_w, i32_w]
      rfl
     refine one_ (i := 2) (N := some 7) #[tb_,tb_,tb_,fb_,fb_,fb_,fb_,fb_,fb_,fb_,fb_,fb_,fb_,fb_,fb_,fb_,fb_,fb_,fb_,fb_,fb_,fb_,fb_,fb_] rfl rfl (one_of HT_.out (by kernel_rfl)) (by decide) (fun K hK => ?_)
     refine goes_ Tryd.func71 (by kernel_rfl) rfl #[.int .i64 a0_0, .int .i64 1, .int .i64 19] (by rfl) rfl rfl (by (try simp only [List.map_toArray, List.map_cons, List.map_nil]); first | done | rfl | (simp only [List.length_drop, List.length_take]; rfl)) ?_
     with_reducible refine (impl_in.calls a0_0 1 19 true _ A4.out).mono ?_
     rintro e w' ⟨rfl, ⟨nd, rfl⟩⟩
     refine ⟨_, rfl, ?_⟩
     refine hK.out _ _ ⟨(kC_ BK219.out 0).trans rfl, (kC_ BK219.out 1).trans rfl, (kC_ BK219.out 2).trans rfl, (kC_ BK219.out 3).trans rfl, (kC_ BK219.out 4).trans rfl, (kC_ BK219.out 5).trans rfl, (kC_ BK219.out 6).trans rfl⟩ (fun hHeld => ?_)
     clear hK K
     refine norm_ (a' := ?_) ?_ ?_
     rotate_left
     ·
      show Act.put _ (some 7) _ = _
      simp only [Act.put, List.setIfInBounds_toArray, List.set_cons_zero, List.set_cons_succ, i64_w, i32_w]
      rfl
     refine pure_ (i := 3) (N := some 8) (v := ?_) (a' := ?_) #[tb_,tb_,tb_,tb_,fb_,fb_,fb_,fb_,fb_,fb_,fb_,fb_,fb_,fb_,fb_,fb_,fb_,fb_,fb_,fb_,fb_,fb_,fb_,fb_] rfl rfl (any_of HT_.out (by kernel_rfl)) (fun _ _ _ h => h) (Or.inl ⟨by rfl, ?_⟩) ?_ ?_
     rotate_left
     ·
      intro w'
      go_simp
      with_reducible rfl
     rotate_left
     ·
      simp only [Act.put, List.setIfInBounds_toArray, List.set_cons_zero, List.set_cons_succ, i64_w, i32_w]
      rfl
     refine pure_ (i := 4) (N := some 9) (v := ?_) (a' := ?_) #[tb_,tb_,tb_,tb_,tb_,fb_,fb_,fb_,fb_,fb_,fb_,fb_,fb_,fb_,fb_,fb_,fb_,fb_,fb_,fb_,fb_,fb_,fb_,fb_] rfl rfl (any_of HT_.out (by kernel_rfl)) (fun _ _ _ h => h) (Or.inl ⟨by rfl, ?_⟩) ?_ ?_
     rotate_left
     ·
      intro w'
      go_simp
      with_reducible rfl
     rotate_left
     ·
      simp only [Act.put, List.setIfInBounds_toArray, List.set_cons_zero, List.set_cons_succ, i64_w, i32_w]
      rfl
     refine pure_ (i := 5) (N := some 10) (v := ?_) (a' := ?_) #[tb_,tb_,tb_,tb_,tb_,tb_,fb_,fb_,fb_,fb_,fb_,fb_,fb_,fb_,fb_,fb_,fb_,fb_,fb_,fb_,fb_,fb_,fb_,fb_] rfl rfl (any_of HT_.out (by kernel_rfl)) (fun _ _ _ h => h) (Or.inl ⟨by rfl, ?_⟩) ?_ ?_
     rotate_left
     ·
      intro w'
      go_simp
      with_reducible rfl
     rotate_left
     ·
      simp only [Act.put, List.setIfInBounds_toArray, List.set_cons_zero, List.set_cons_succ, i64_w, i32_w]
      rfl
     refine pure_ (i := 7) (N := some 12) (v := ?_) (a' := ?_) #[tb_,tb_,tb_,tb_,tb_,tb_,fb_,tb_,fb_,fb_,fb_,fb_,fb_,fb_,fb_,fb_,fb_,fb_,fb_,fb_,fb_,fb_,fb_,fb_] rfl rfl (any_of HT_.out (by kernel_rfl)) (fun _ _ _ h => h) (Or.inl ⟨by rfl, ?_⟩) ?_ ?_
     rotate_left
     ·
      intro w'
      go_simp
      with_reducible rfl
     rotate_left
     ·
      simp only [Act.put, List.setIfInBounds_toArray, List.set_cons_zero, List.set_cons_succ, i64_w, i32_w]
      rfl
     refine take_ (i := 6) (N := some 11) (v := ?_) (a' := ?_) #[tb_,tb_,tb_,tb_,tb_,tb_,tb_,tb_,fb_,fb_,fb_,fb_,fb_,fb_,fb_,fb_,fb_,fb_,fb_,fb_,fb_,fb_,fb_,fb_] rfl rfl (take_ofW HT_.out HW_.out (by kernel_rfl)) (fun _ _ _ h => h) (Or.inl ⟨by rfl, ?_⟩) hHeld ?_ ?_
     rotate_left
     ·
      rintro w' ⟨s0, s1, s2, s3, s4, s5, s6⟩
      go_simp
      with_reducible rfl
     rotate_left
     ·
      simp only [Act.put, List.setIfInBounds_toArray, List.set_cons_zero, List.set_cons_succ, i64_w, i32_w]
      rfl
     refine take_ (i := 8) (N := some 13) (v := ?_) (a' := ?_) #[tb_,tb_,tb_,tb_,tb_,tb_,tb_,tb_,tb_,fb_,fb_,fb_,fb_,fb_,fb_,fb_,fb_,fb_,fb_,fb_,fb_,fb_,fb_,fb_] rfl rfl (take_ofW HT_.out HW_.out (by kernel_rfl)) (fun _ _ _ h => h) (Or.inl ⟨by rfl, ?_⟩) hHeld ?_ ?_
     rotate_left
     ·
      rintro w' ⟨s0, s1, s2, s3, s4, s5, s6⟩
      go_simp
      with_reducible rfl
     rotate_left
     ·
      simp only [Act.put, List.setIfInBounds_toArray, List.set_cons_zero, List.set_cons_succ, i64_w, i32_w]
      rfl
     refine one_ (i := 9) (N := some 14) #[tb_,tb_,tb_,tb_,tb_,tb_,tb_,tb_,tb_,tb_,fb_,fb_,fb_,fb_,fb_,fb_,fb_,fb_,fb_,fb_,fb_,fb_,fb_,fb_] rfl rfl (one_of HT_.out (by kernel_rfl)) (by decide) (fun K hK => ?_)
     refine goes_ Tryd.func119 (by kernel_rfl) rfl #[.int .i64 a0_0] (by rfl) rfl rfl (by (try simp only [List.map_toArray, List.map_cons, List.map_nil]); first | done | rfl | (simp only [List.length_drop, List.length_take]; rfl)) ?_
     with_reducible refine (impl_namesOf.calls k a0_0 t221 _ A6.out).mono ?_
     rintro e w' ⟨rfl, ⟨nd, rfl⟩⟩
     refine ⟨_, rfl, ?_⟩
     refine hK.out _ _ ⟨(kC_ BK219.out 0).trans rfl, (kC_ BK219.out 1).trans rfl, (kC_ BK219.out 2).trans rfl, (kC_ BK219.out 3).trans rfl, (kC_ BK219.out 4).trans rfl, (kC_ BK219.out 5).trans rfl, (kC_ BK219.out 6).trans rfl⟩ (fun hHeld => ?_)
     clear hK K
     refine norm_ (a' := ?_) ?_ ?_
     rotate_left
     ·
      show Act.put _ (some 14) _ = _
      simp only [Act.put, List.setIfInBounds_toArray, List.set_cons_zero, List.set_cons_succ, i64_w, i32_w]
      rfl
     refine pure_ (i := 10) (N := some 15) (v := ?_) (a' := ?_) #[tb_,tb_,tb_,tb_,tb_,tb_,tb_,tb_,tb_,tb_,tb_,fb_,fb_,fb_,fb_,fb_,fb_,fb_,fb_,fb_,fb_,fb_,fb_,fb_] rfl rfl (any_of HT_.out (by kernel_rfl)) (fun _ _ _ h => h) (Or.inl ⟨by rfl, ?_⟩) ?_ ?_
     rotate_left
     ·
      intro w'
      go_simp
      with_reducible rfl
     rotate_left
     ·
      simp only [Act.put, List.setIfInBounds_toArray, List.set_cons_zero, List.set_cons_succ, i64_w, i32_w]
      rfl
     refine one_ (i := 11) (N := some 16) #[tb_,tb_,tb_,tb_,tb_,tb_,tb_,tb_,tb_,tb_,tb_,tb_,fb_,fb_,fb_,fb_,fb_,fb_,fb_,fb_,fb_,fb_,fb_,fb_] rfl rfl (one_of HT_.out (by kernel_rfl)) (by decide) (fun K hK => ?_)
     refine goes_ Tryd.func118 (by kernel_rfl) rfl #[.string a0_5, .bool (decide (t221 > 0))] (by rfl) rfl rfl (by (try simp only [List.map_toArray, List.map_cons, List.map_nil]); first | done | rfl | (simp only [List.length_drop, List.length_take]; rfl)) ?_
     with_reducible refine (impl_nameFits.calls k a0_5 (decide (t221 > 0)) false _ A7.out).mono ?_
     rintro e w15 ⟨rfl, hb⟩
     refine ⟨_, rfl, ?_⟩
     have n0_ := Ad_.mk (blk_below (g := gb219) (o := .cells #[.int .i64 a0_0, .int .i64 a0_1, .int .i64 a0_2, .int .i64 a0_3, .int .i64 a0_4, .string a0_5, .string a0_6] 55 (0, 0)) (by (with_reducible repeat (first | refine kN_ ?_ _ | refine k1_ ?_ | refine kA_ ?_ _)); exact BK219.out) hb)
     have n1_ := Ad_.mk (bP_ (by repeat (with_reducible first | exact HB.out | apply bA_ | apply bN_ | apply b1_ | refine bS_ ?_ GE219.out)) hb)
     clear BK219
     clear HB
     have BK219 := n0_
     have HB := n1_
     clear n0_ n1_
     (try clear hb)
     (try clear hb2)
     (try clear hk)
     (try clear hi)
     refine hK.out _ _ ⟨(kC_ BK219.out 0).trans rfl, (kC_ BK219.out 1).trans rfl, (kC_ BK219.out 2).trans rfl, (kC_ BK219.out 3).trans rfl, (kC_ BK219.out 4).trans rfl, (kC_ BK219.out 5).trans rfl, (kC_ BK219.out 6).trans rfl⟩ (fun hHeld => ?_)
     clear hK K
     refine norm_ (a' := ?_) ?_ ?_
     rotate_left
     ·
      show Act.put _ (some 16) _ = _
      simp only [Act.put, List.setIfInBounds_toArray, List.set_cons_zero, List.set_cons_succ, i64_w, i32_w]
      rfl
     refine pure_ (i := 12) (N := some 17) (v := ?_) (a' := ?_) #[tb_,tb_,tb_,tb_,tb_,tb_,tb_,tb_,tb_,tb_,tb_,tb_,tb_,fb_,fb_,fb_,fb_,fb_,fb_,fb_,fb_,fb_,fb_,fb_] rfl rfl (any_of HT_.out (by kernel_rfl)) (fun _ _ _ h => h) (Or.inl ⟨by rfl, ?_⟩) ?_ ?_
     rotate_left
     ·
      intro w'
      go_simp
      with_reducible rfl
     rotate_left
     ·
      simp only [Act.put, List.setIfInBounds_toArray, List.set_cons_zero, List.set_cons_succ, i64_w, i32_w]
      rfl
     refine pure_ (i := 13) (N := some 18) (v := ?_) (a' := ?_) #[tb_,tb_,tb_,tb_,tb_,tb_,tb_,tb_,tb_,tb_,tb_,tb_,tb_,tb_,fb_,fb_,fb_,fb_,fb_,fb_,fb_,fb_,fb_,fb_] rfl rfl (any_of HT_.out (by kernel_rfl)) (fun _ _ _ h => h) (Or.inl ⟨by rfl, ?_⟩) ?_ ?_
     rotate_left
     ·
      intro w'
      go_simp
      with_reducible rfl
     rotate_left
     ·
      simp only [Act.put, List.setIfInBounds_toArray, List.set_cons_zero, List.set_cons_succ, i64_w, i32_w]
      rfl
     refine pure_ (i := 14) (N := some 19) (v := ?_) (a' := ?_) #[tb_,tb_,tb_,tb_,tb_,tb_,tb_,tb_,tb_,tb_,tb_,tb_,tb_,tb_,tb_,fb_,fb_,fb_,fb_,fb_,fb_,fb_,fb_,fb_] rfl rfl (any_of HT_.out (by kernel_rfl)) (fun _ _ _ h => h) (Or.inl ⟨by rfl, ?_⟩) ?_ ?_
     rotate_left
     ·
      intro w'
      go_simp
      with_reducible rfl
     rotate_left
     ·
      simp only [Act.put, List.setIfInBounds_toArray, List.set_cons_zero, List.set_cons_succ, i64_w, i32_w]
      rfl
     refine pure_ (i := 15) (N := some 20) (v := undef) (a' := ?_) #[tb_,tb_,tb_,tb_,tb_,tb_,tb_,tb_,tb_,tb_,tb_,tb_,tb_,tb_,tb_,tb_,fb_,fb_,fb_,fb_,fb_,fb_,fb_,fb_] rfl rfl (any_of HT_.out (by kernel_rfl)) (fun _ _ _ h => h) (Or.inr ⟨by rfl, rfl⟩) ?_ ?_
     rotate_left
     ·
      simp only [Act.put, List.setIfInBounds_toArray, List.set_cons_zero, List.set_cons_succ, i64_w, i32_w]
      rfl
     refine pure_ (i := 16) (N := some 21) (v := undef) (a' := ?_) #[tb_,tb_,tb_,tb_,tb_,tb_,tb_,tb_,tb_,tb_,tb_,tb_,tb_,tb_,tb_,tb_,tb_,fb_,fb_,fb_,fb_,fb_,fb_,fb_] rfl rfl (any_of HT_.out (by kernel_rfl)) (fun _ _ _ h => h) (Or.inr ⟨by rfl, rfl⟩) ?_ ?_
     rotate_left
     ·
      simp only [Act.put, List.setIfInBounds_toArray, List.set_cons_zero, List.set_cons_succ, i64_w, i32_w]
      rfl
     refine pure_ (i := 17) (N := some 22) (v := undef) (a' := ?_) #[tb_,tb_,tb_,tb_,tb_,tb_,tb_,tb_,tb_,tb_,tb_,tb_,tb_,tb_,tb_,tb_,tb_,tb_,fb_,fb_,fb_,fb_,fb_,fb_] rfl rfl (any_of HT_.out (by kernel_rfl)) (fun _ _ _ h => h) (Or.inr ⟨by rfl, rfl⟩) ?_ ?_
     rotate_left
     ·
      simp only [Act.put, List.setIfInBounds_toArray, List.set_cons_zero, List.set_cons_succ, i64_w, i32_w]
      rfl
     refine pure_ (i := 18) (N := some 23) (v := undef) (a' := ?_) #[tb_,tb_,tb_,tb_,tb_,tb_,tb_,tb_,tb_,tb_,tb_,tb_,tb_,tb_,tb_,tb_,tb_,tb_,tb_,fb_,fb_,fb_,fb_,fb_] rfl rfl (any_of HT_.out (by kernel_rfl)) (fun _ _ _ h => h) (Or.inr ⟨by rfl, rfl⟩) ?_ ?_
     rotate_left
     ·
      simp only [Act.put, List.setIfInBounds_toArray, List.set_cons_zero, List.set_cons_succ, i64_w, i32_w]
      rfl
     refine pure_ (i := 19) (N := some 24) (v := undef) (a' := ?_) #[tb_,tb_,tb_,tb_,tb_,tb_,tb_,tb_,tb_,tb_,tb_,tb_,tb_,tb_,tb_,tb_,tb_,tb_,tb_,tb_,fb_,fb_,fb_,fb_] rfl rfl (any_of HT_.out (by kernel_rfl)) (fun _ _ _ h => h) (Or.inr ⟨by rfl, rfl⟩) ?_ ?_
     rotate_left
     ·
      simp only [Act.put, List.setIfInBounds_toArray, List.set_cons_zero, List.set_cons_succ, i64_w, i32_w]
      rfl
     refine pure_ (i := 20) (N := some 25) (v := undef) (a' := ?_) #[tb_,tb_,tb_,tb_,tb_,tb_,tb_,tb_,tb_,tb_,tb_,tb_,tb_,tb_,tb_,tb_,tb_,tb_,tb_,tb_,tb_,fb_,fb_,fb_] rfl rfl (any_of HT_.out (by kernel_rfl)) (fun _ _ _ h => h) (Or.inr ⟨by rfl, rfl⟩) ?_ ?_
     rotate_left
     ·
      simp only [Act.put, List.setIfInBounds_toArray, List.set_cons_zero, List.set_cons_succ, i64_w, i32_w]
      rfl
     refine pure_ (i := 21) (N := some 26) (v := undef) (a' := ?_) #[tb_,tb_,tb_,tb_,tb_,tb_,tb_,tb_,tb_,tb_,tb_,tb_,tb_,tb_,tb_,tb_,tb_,tb_,tb_,tb_,tb_,tb_,fb_,fb_] rfl rfl (any_of HT_.out (by kernel_rfl)) (fun _ _ _ h => h) (Or.inr ⟨by rfl, rfl⟩) ?_ ?_
     rotate_left
     ·
      simp only [Act.put, List.setIfInBounds_toArray, List.set_cons_zero, List.set_cons_succ, i64_w, i32_w]
      rfl
     refine pure_ (i := 22) (N := some 27) (v := undef) (a' := ?_) #[tb_,tb_,tb_,tb_,tb_,tb_,tb_,tb_,tb_,tb_,tb_,tb_,tb_,tb_,tb_,tb_,tb_,tb_,tb_,tb_,tb_,tb_,tb_,fb_] rfl rfl (any_of HT_.out (by kernel_rfl)) (fun _ _ _ h => h) (Or.inr ⟨by rfl, rfl⟩) ?_ ?_
     rotate_left
     ·
      simp only [Act.put, List.setIfInBounds_toArray, List.set_cons_zero, List.set_cons_succ, i64_w, i32_w]
      rfl
     refine pure_ (i := 23) (N := some 28) (v := ?_) (a' := ?_) #[tb_,tb_,tb_,tb_,tb_,tb_,tb_,tb_,tb_,tb_,tb_,tb_,tb_,tb_,tb_,tb_,tb_,tb_,tb_,tb_,tb_,tb_,tb_,tb_] rfl rfl (any_of HT_.out (by kernel_rfl)) (fun _ _ _ h => h) (Or.inl ⟨by rfl, ?_⟩) ?_ ?_
     rotate_left
     ·
      intro w'
      go_simp
      with_reducible rfl
     rotate_left
     ·
      simp only [Act.put, List.setIfInBounds_toArray, List.set_cons_zero, List.set_cons_succ, i64_w, i32_w]
      rfl
     refine done_ (done_of HT_.out (by kernel_rfl)) ?_
     try go_wp2
     go_meet
     case rel => exact ⟨_, (true), fs_, H', ⟨by first | omega | exact Nat.le_refl _⟩, ⟨by (with_reducible repeat (first | refine kN_ ?_ _ | refine k1_ ?_ | refine kA_ ?_ _)); exact BK219.out⟩, ⟨by repeat (with_reducible first | exact HB.out | apply bA_ | apply bN_ | apply b1_ | refine bS_ ?_ GE219.out)⟩⟩
    subst c8
    have H1 := H
    rw [if_pos rfl] at H1
    clear H
    have H := H1
    clear H1
    replace H := Option.bind_eq_some_iff.mp H
    obtain ⟨t223, A90, H⟩ := H
    try dsimp only at H
    have A9 := Ad_.mk A90
    clear A90
    replace H := Option.bind_eq_some_iff.mp H
    obtain ⟨t224, A100, H⟩ := H
    try dsimp only at H
    have A10 := Ad_.mk A100
    clear A100
    have H' := Ad_.mk H
    clear H
    try go_wp2
    have n0_ := Ad_.mk (k1_ BK219.out)
    have n1_ := Ad_.mk (b1_ HB.out)
    clear BK219
    clear HB
    have BK219 := n0_
    have HB := n1_
    clear n0_ n1_
    refine start_ (n := 24) (S := fun w' => w'.cell? ⟨gb219, 0, none⟩ = some (.int .i64 a0_0) ∧ w'.cell? ⟨gb219, 1, none⟩ = some (.int .i64 a0_1) ∧ w'.cell? ⟨gb219, 2, none⟩ = some (.int .i64 a0_2) ∧ w'.cell? ⟨gb219, 3, none⟩ = some (.int .i64 a0_3) ∧ w'.cell? ⟨gb219, 4, none⟩ = some (.int .i64 a0_4) ∧ w'.cell? ⟨gb219, 5, none⟩ = some (.string a0_5) ∧ w'.cell? ⟨gb219, 6, none⟩ = some (.string a0_6)) (ds := []) #[fb_,fb_,fb_,fb_,fb_,fb_,fb_,fb_,fb_,fb_,fb_,fb_,fb_,fb_,fb_,fb_,fb_,fb_,fb_,fb_,fb_,fb_,fb_,fb_] (by kernel_rfl) rfl rfl ⟨(kC_ BK219.out 0).trans rfl, (kC_ BK219.out 1).trans rfl, (kC_ BK219.out 2).trans rfl, (kC_ BK219.out 3).trans rfl, (kC_ BK219.out 4).trans rfl, (kC_ BK219.out 5).trans rfl, (kC_ BK219.out 6).trans rfl⟩ (fun hHeld => ?_); refine with_tabW impl_fieldsOk.tab1 impl_fieldsOk.bits1 (fun HT_ HW_ => ?_)
    generalize w3.drew = w11 at BK219 HB hHeld ⊢
    refine pure_ (i := 0) (N := some 5) (v := ?_) (a' := ?_) #[tb_,fb_,fb_,fb_,fb_,fb_,fb_,fb_,fb_,fb_,fb_,fb_,fb_,fb_,fb_,fb_,fb_,fb_,fb_,fb_,fb_,fb_,fb_,fb_] rfl rfl (any_of HT_.out (by kernel_rfl)) (fun _ _ _ h => h) (Or.inl ⟨by rfl, ?_⟩) ?_ ?_
    rotate_left
    ·
     intro w'
     go_simp
     with_reducible rfl
    rotate_left
    ·
     simp only [Act.put, List.setIfInBounds_toArray, List.set_cons_zero, List.set_cons_succ, i64_w, i32_w]
     rfl
    refine take_ (i := 1) (N := some 6) (v := ?_) (a' := ?_) #[tb_,tb_,fb_,fb_,fb_,fb_,fb_,fb_,fb_,fb_,fb_,fb_,fb_,fb_,fb_,fb_,fb_,fb_,fb_,fb_,fb_,fb_,fb_,fb_] rfl rfl (take_ofW HT_.out HW_.out (by kernel_rfl)) (fun _ _ _ h => h) (Or.inl ⟨by rfl, ?_⟩) hHeld ?_ ?_
    rotate_left
    ·
     rintro w' ⟨s0, s1, s2, s3, s4, s5, s6⟩
     go_simp
     with_reducible rfl
    rotate_left
    ·
     simp only [Act.put, List.setIfInBounds_toArray, List.set_cons_zero, List.set_cons_succ, i64_w, i32_w]
     rfl
    refine one_ (i := 2) (N := some 7) #[tb_,tb_,tb_,fb_,fb_,fb_,fb_,fb_,fb_,fb_,fb_,fb_,fb_,fb_,fb_,fb_,fb_,fb_,fb_,fb_,fb_,fb_,fb_,fb_] rfl rfl (one_of HT_.out (by kernel_rfl)) (by decide) (fun K hK => ?_)
    refine goes_ Tryd.func71 (by kernel_rfl) rfl #[.int .i64 a0_0, .int .i64 1, .int .i64 19] (by rfl) rfl rfl (by (try simp only [List.map_toArray, List.map_cons, List.map_nil]); first | done | rfl | (simp only [List.length_drop, List.length_take]; rfl)) ?_
    with_reducible refine (impl_in.calls a0_0 1 19 true _ A4.out).mono ?_
    rintro e w' ⟨rfl, ⟨nd, rfl⟩⟩
    refine ⟨_, rfl, ?_⟩
    refine hK.out _ _ ⟨(kC_ BK219.out 0).trans rfl, (kC_ BK219.out 1).trans rfl, (kC_ BK219.out 2).trans rfl, (kC_ BK219.out 3).trans rfl, (kC_ BK219.out 4).trans rfl, (kC_ BK219.out 5).trans rfl, (kC_ BK219.out 6).trans rfl⟩ (fun hHeld => ?_)
    clear hK K
    refine norm_ (a' := ?_) ?_ ?_
    rotate_left
    ·
     show Act.put _ (some 7) _ = _
     simp only [Act.put, List.setIfInBounds_toArray, List.set_cons_zero, List.set_cons_succ, i64_w, i32_w]
     rfl
    refine pure_ (i := 3) (N := some 8) (v := ?_) (a' := ?_) #[tb_,tb_,tb_,tb_,fb_,fb_,fb_,fb_,fb_,fb_,fb_,fb_,fb_,fb_,fb_,fb_,fb_,fb_,fb_,fb_,fb_,fb_,fb_,fb_] rfl rfl (any_of HT_.out (by kernel_rfl)) (fun _ _ _ h => h) (Or.inl ⟨by rfl, ?_⟩) ?_ ?_
    rotate_left
    ·
     intro w'
     go_simp
     with_reducible rfl
    rotate_left
    ·
     simp only [Act.put, List.setIfInBounds_toArray, List.set_cons_zero, List.set_cons_succ, i64_w, i32_w]
     rfl
    refine pure_ (i := 4) (N := some 9) (v := ?_) (a' := ?_) #[tb_,tb_,tb_,tb_,tb_,fb_,fb_,fb_,fb_,fb_,fb_,fb_,fb_,fb_,fb_,fb_,fb_,fb_,fb_,fb_,fb_,fb_,fb_,fb_] rfl rfl (any_of HT_.out (by kernel_rfl)) (fun _ _ _ h => h) (Or.inl ⟨by rfl, ?_⟩) ?_ ?_
    rotate_left
    ·
     intro w'
     go_simp
     with_reducible rfl
    rotate_left
    ·
     simp only [Act.put, List.setIfInBounds_toArray, List.set_cons_zero, List.set_cons_succ, i64_w, i32_w]
     rfl
    refine pure_ (i := 5) (N := some 10) (v := ?_) (a' := ?_) #[tb_,tb_,tb_,tb_,tb_,tb_,fb_,fb_,fb_,fb_,fb_,fb_,fb_,fb_,fb_,fb_,fb_,fb_,fb_,fb_,fb_,fb_,fb_,fb_] rfl rfl (any_of HT_.out (by kernel_rfl)) (fun _ _ _ h => h) (Or.inl ⟨by rfl, ?_⟩) ?_ ?_
    rotate_left
    ·
     intro w'
     go_simp
     with_reducible rfl
    rotate_left
    ·
     simp only [Act.put, List.setIfInBounds_toArray, List.set_cons_zero, List.set_cons_succ, i64_w, i32_w]
     rfl
    refine pure_ (i := 7) (N := some 12) (v := ?_) (a' := ?_) #[tb_,tb_,tb_,tb_,tb_,tb_,fb_,tb_,fb_,fb_,fb_,fb_,fb_,fb_,fb_,fb_,fb_,fb_,fb_,fb_,fb_,fb_,fb_,fb_] rfl rfl (any_of HT_.out (by kernel_rfl)) (fun _ _ _ h => h) (Or.inl ⟨by rfl, ?_⟩) ?_ ?_
    rotate_left
    ·
     intro w'
     go_simp
     with_reducible rfl
    rotate_left
    ·
     simp only [Act.put, List.setIfInBounds_toArray, List.set_cons_zero, List.set_cons_succ, i64_w, i32_w]
     rfl
    refine take_ (i := 6) (N := some 11) (v := ?_) (a' := ?_) #[tb_,tb_,tb_,tb_,tb_,tb_,tb_,tb_,fb_,fb_,fb_,fb_,fb_,fb_,fb_,fb_,fb_,fb_,fb_,fb_,fb_,fb_,fb_,fb_] rfl rfl (take_ofW HT_.out HW_.out (by kernel_rfl)) (fun _ _ _ h => h) (Or.inl ⟨by rfl, ?_⟩) hHeld ?_ ?_
    rotate_left
    ·
     rintro w' ⟨s0, s1, s2, s3, s4, s5, s6⟩
     go_simp
     with_reducible rfl
    rotate_left
    ·
     simp only [Act.put, List.setIfInBounds_toArray, List.set_cons_zero, List.set_cons_succ, i64_w, i32_w]
     rfl
    refine take_ (i := 8) (N := some 13) (v := ?_) (a' := ?_) #[tb_,tb_,tb_,tb_,tb_,tb_,tb_,tb_,tb_,fb_,fb_,fb_,fb_,fb_,fb_,fb_,fb_,fb_,fb_,fb_,fb_,fb_,fb_,fb_] rfl rfl (take_ofW HT_.out HW_.out (by kernel_rfl)) (fun _ _ _ h => h) (Or.inl ⟨by rfl, ?_⟩) hHeld ?_ ?_
    rotate_left
    ·
     rintro w' ⟨s0, s1, s2, s3, s4, s5, s6⟩
     go_simp
     with_reducible rfl
    rotate_left
    ·
     simp only [Act.put, List.setIfInBounds_toArray, List.set_cons_zero, List.set_cons_succ, i64_w, i32_w]
     rfl
    refine one_ (i := 9) (N := some 14) #[tb_,tb_,tb_,tb_,tb_,tb_,tb_,tb_,tb_,tb_,fb_,fb_,fb_,fb_,fb_,fb_,fb_,fb_,fb_,fb_,fb_,fb_,fb_,fb_] rfl rfl (one_of HT_.out (by kernel_rfl)) (by decide) (fun K hK => ?_)
    refine goes_ Tryd.func119 (by kernel_rfl) rfl #[.int .i64 a0_0] (by rfl) rfl rfl (by (try simp only [List.map_toArray, List.map_cons, List.map_nil]); first | done | rfl | (simp only [List.length_drop, List.length_take]; rfl)) ?_
    with_reducible refine (impl_namesOf.calls k a0_0 t221 _ A6.out).mono ?_
    rintro e w' ⟨rfl, ⟨nd, rfl⟩⟩
    refine ⟨_, rfl, ?_⟩
    refine hK.out _ _ ⟨(kC_ BK219.out 0).trans rfl, (kC_ BK219.out 1).trans rfl, (kC_ BK219.out 2).trans rfl, (kC_ BK219.out 3).trans rfl, (kC_ BK219.out 4).trans rfl, (kC_ BK219.out 5).trans rfl, (kC_ BK219.out 6).trans rfl⟩ (fun hHeld => ?_)
    clear hK K
    refine norm_ (a' := ?_) ?_ ?_
    rotate_left
    ·
     show Act.put _ (some 14) _ = _
     simp only [Act.put, List.setIfInBounds_toArray, List.set_cons_zero, List.set_cons_succ, i64_w, i32_w]
     rfl
    refine pure_ (i := 10) (N := some 15) (v := ?_) (a' := ?_) #[tb_,tb_,tb_,tb_,tb_,tb_,tb_,tb_,tb_,tb_,tb_,fb_,fb_,fb_,fb_,fb_,fb_,fb_,fb_,fb_,fb_,fb_,fb_,fb_] rfl rfl (any_of HT_.out (by kernel_rfl)) (fun _ _ _ h => h) (Or.inl ⟨by rfl, ?_⟩) ?_ ?_
    rotate_left
    ·
     intro w'
     go_simp
     with_reducible rfl
    rotate_left
    ·
     simp only [Act.put, List.setIfInBounds_toArray, List.set_cons_zero, List.set_cons_succ, i64_w, i32_w]
     rfl
    refine one_ (i := 11) (N := some 16) #[tb_,tb_,tb_,tb_,tb_,tb_,tb_,tb_,tb_,tb_,tb_,tb_,fb_,fb_,fb_,fb_,fb_,fb_,fb_,fb_,fb_,fb_,fb_,fb_] rfl rfl (one_of HT_.out (by kernel_rfl)) (by decide) (fun K hK => ?_)
    refine goes_ Tryd.func118 (by kernel_rfl) rfl #[.string a0_5, .bool (decide (t221 > 0))] (by rfl) rfl rfl (by (try simp only [List.map_toArray, List.map_cons, List.map_nil]); first | done | rfl | (simp only [List.length_drop, List.length_take]; rfl)) ?_
    with_reducible refine (impl_nameFits.calls k a0_5 (decide (t221 > 0)) true _ A7.out).mono ?_
    rintro e w12 ⟨rfl, hb⟩
    refine ⟨_, rfl, ?_⟩
    have n0_ := Ad_.mk (blk_below (g := gb219) (o := .cells #[.int .i64 a0_0, .int .i64 a0_1, .int .i64 a0_2, .int .i64 a0_3, .int .i64 a0_4, .string a0_5, .string a0_6] 55 (0, 0)) (by (with_reducible repeat (first | refine kN_ ?_ _ | refine k1_ ?_ | refine kA_ ?_ _)); exact BK219.out) hb)
    have n1_ := Ad_.mk (bP_ (by repeat (with_reducible first | exact HB.out | apply bA_ | apply bN_ | apply b1_ | refine bS_ ?_ GE219.out)) hb)
    clear BK219
    clear HB
    have BK219 := n0_
    have HB := n1_
    clear n0_ n1_
    (try clear hb)
    (try clear hb2)
    (try clear hk)
    (try clear hi)
    refine hK.out _ _ ⟨(kC_ BK219.out 0).trans rfl, (kC_ BK219.out 1).trans rfl, (kC_ BK219.out 2).trans rfl, (kC_ BK219.out 3).trans rfl, (kC_ BK219.out 4).trans rfl, (kC_ BK219.out 5).trans rfl, (kC_ BK219.out 6).trans rfl⟩ (fun hHeld => ?_)
    clear hK K
    refine norm_ (a' := ?_) ?_ ?_
    rotate_left
    ·
     show Act.put _ (some 16) _ = _
     simp only [Act.put, List.setIfInBounds_toArray, List.set_cons_zero, List.set_cons_succ, i64_w, i32_w]
     rfl
    refine pure_ (i := 12) (N := some 17) (v := ?_) (a' := ?_) #[tb_,tb_,tb_,tb_,tb_,tb_,tb_,tb_,tb_,tb_,tb_,tb_,tb_,fb_,fb_,fb_,fb_,fb_,fb_,fb_,fb_,fb_,fb_,fb_] rfl rfl (any_of HT_.out (by kernel_rfl)) (fun _ _ _ h => h) (Or.inl ⟨by rfl, ?_⟩) ?_ ?_
    rotate_left
    ·
     intro w'
     go_simp
     with_reducible rfl
    rotate_left
    ·
     simp only [Act.put, List.setIfInBounds_toArray, List.set_cons_zero, List.set_cons_succ, i64_w, i32_w]
     rfl
    refine pure_ (i := 13) (N := some 18) (v := ?_) (a' := ?_) #[tb_,tb_,tb_,tb_,tb_,tb_,tb_,tb_,tb_,tb_,tb_,tb_,tb_,tb_,fb_,fb_,fb_,fb_,fb_,fb_,fb_,fb_,fb_,fb_] rfl rfl (any_of HT_.out (by kernel_rfl)) (fun _ _ _ h => h) (Or.inl ⟨by rfl, ?_⟩) ?_ ?_
    rotate_left
    ·
     intro w'
     go_simp
     with_reducible rfl
    rotate_left
    ·
     simp only [Act.put, List.setIfInBounds_toArray, List.set_cons_zero, List.set_cons_succ, i64_w, i32_w]
     rfl
    refine pure_ (i := 14) (N := some 19) (v := ?_) (a' := ?_) #[tb_,tb_,tb_,tb_,tb_,tb_,tb_,tb_,tb_,tb_,tb_,tb_,tb_,tb_,tb_,fb_,fb_,fb_,fb_,fb_,fb_,fb_,fb_,fb_] rfl rfl (any_of HT_.out (by kernel_rfl)) (fun _ _ _ h => h) (Or.inl ⟨by rfl, ?_⟩) ?_ ?_
    rotate_left
    ·
     intro w'
     go_simp
     with_reducible rfl
    rotate_left
    ·
     simp only [Act.put, List.setIfInBounds_toArray, List.set_cons_zero, List.set_cons_succ, i64_w, i32_w]
     rfl
    refine pure_ (i := 15) (N := some 20) (v := ?_) (a' := ?_) #[tb_,tb_,tb_,tb_,tb_,tb_,tb_,tb_,tb_,tb_,tb_,tb_,tb_,tb_,tb_,tb_,fb_,fb_,fb_,fb_,fb_,fb_,fb_,fb_] rfl rfl (any_of HT_.out (by kernel_rfl)) (fun _ _ _ h => h) (Or.inl ⟨by rfl, ?_⟩) ?_ ?_
    rotate_left
    ·
     intro w'
     go_simp
     with_reducible rfl
    rotate_left
    ·
     simp only [Act.put, List.setIfInBounds_toArray, List.set_cons_zero, List.set_cons_succ, i64_w, i32_w]
     rfl
    refine pure_ (i := 17) (N := some 22) (v := ?_) (a' := ?_) #[tb_,tb_,tb_,tb_,tb_,tb_,tb_,tb_,tb_,tb_,tb_,tb_,tb_,tb_,tb_,tb_,fb_,tb_,fb_,fb_,fb_,fb_,fb_,fb_] rfl rfl (any_of HT_.out (by kernel_rfl)) (fun _ _ _ h => h) (Or.inl ⟨by rfl, ?_⟩) ?_ ?_
    rotate_left
    ·
     intro w'
     go_simp
     with_reducible rfl
    rotate_left
    ·
     simp only [Act.put, List.setIfInBounds_toArray, List.set_cons_zero, List.set_cons_succ, i64_w, i32_w]
     rfl
    refine take_ (i := 16) (N := some 21) (v := ?_) (a' := ?_) #[tb_,tb_,tb_,tb_,tb_,tb_,tb_,tb_,tb_,tb_,tb_,tb_,tb_,tb_,tb_,tb_,tb_,tb_,fb_,fb_,fb_,fb_,fb_,fb_] rfl rfl (take_ofW HT_.out HW_.out (by kernel_rfl)) (fun _ _ _ h => h) (Or.inl ⟨by rfl, ?_⟩) hHeld ?_ ?_
    rotate_left
    ·
     rintro w' ⟨s0, s1, s2, s3, s4, s5, s6⟩
     go_simp
     with_reducible rfl
    rotate_left
    ·
     simp only [Act.put, List.setIfInBounds_toArray, List.set_cons_zero, List.set_cons_succ, i64_w, i32_w]
     rfl
    refine take_ (i := 18) (N := some 23) (v := ?_) (a' := ?_) #[tb_,tb_,tb_,tb_,tb_,tb_,tb_,tb_,tb_,tb_,tb_,tb_,tb_,tb_,tb_,tb_,tb_,tb_,tb_,fb_,fb_,fb_,fb_,fb_] rfl rfl (take_ofW HT_.out HW_.out (by kernel_rfl)) (fun _ _ _ h => h) (Or.inl ⟨by rfl, ?_⟩) hHeld ?_ ?_
    rotate_left
    ·
     rintro w' ⟨s0, s1, s2, s3, s4, s5, s6⟩
     go_simp
     with_reducible rfl
    rotate_left
    ·
     simp only [Act.put, List.setIfInBounds_toArray, List.set_cons_zero, List.set_cons_succ, i64_w, i32_w]
     rfl
    refine one_ (i := 19) (N := some 24) #[tb_,tb_,tb_,tb_,tb_,tb_,tb_,tb_,tb_,tb_,tb_,tb_,tb_,tb_,tb_,tb_,tb_,tb_,tb_,tb_,fb_,fb_,fb_,fb_] rfl rfl (one_of HT_.out (by kernel_rfl)) (by decide) (fun K hK => ?_)
    refine goes_ Tryd.func119 (by kernel_rfl) rfl #[.int .i64 a0_0] (by rfl) rfl rfl (by (try simp only [List.map_toArray, List.map_cons, List.map_nil]); first | done | rfl | (simp only [List.length_drop, List.length_take]; rfl)) ?_
    with_reducible refine (impl_namesOf.calls k a0_0 t223 _ A9.out).mono ?_
    rintro e w' ⟨rfl, ⟨nd, rfl⟩⟩
    refine ⟨_, rfl, ?_⟩
    refine hK.out _ _ ⟨(kC_ BK219.out 0).trans rfl, (kC_ BK219.out 1).trans rfl, (kC_ BK219.out 2).trans rfl, (kC_ BK219.out 3).trans rfl, (kC_ BK219.out 4).trans rfl, (kC_ BK219.out 5).trans rfl, (kC_ BK219.out 6).trans rfl⟩ (fun hHeld => ?_)
    clear hK K
    refine norm_ (a' := ?_) ?_ ?_
    rotate_left
    ·
     show Act.put _ (some 24) _ = _
     simp only [Act.put, List.setIfInBounds_toArray, List.set_cons_zero, List.set_cons_succ, i64_w, i32_w]
     rfl
    refine pure_ (i := 20) (N := some 25) (v := ?_) (a' := ?_) #[tb_,tb_,tb_,tb_,tb_,tb_,tb_,tb_,tb_,tb_,tb_,tb_,tb_,tb_,tb_,tb_,tb_,tb_,tb_,tb_,tb_,fb_,fb_,fb_] rfl rfl (any_of HT_.out (by kernel_rfl)) (fun _ _ _ h => h) (Or.inl ⟨by rfl, ?_⟩) ?_ ?_
    rotate_left
    ·
     intro w'
     go_simp
     with_reducible rfl
    rotate_left
    ·
     simp only [Act.put, List.setIfInBounds_toArray, List.set_cons_zero, List.set_cons_succ, i64_w, i32_w]
     rfl
    refine one_ (i := 21) (N := some 26) #[tb_,tb_,tb_,tb_,tb_,tb_,tb_,tb_,tb_,tb_,tb_,tb_,tb_,tb_,tb_,tb_,tb_,tb_,tb_,tb_,tb_,tb_,fb_,fb_] rfl rfl (one_of HT_.out (by kernel_rfl)) (by decide) (fun K hK => ?_)
    refine goes_ Tryd.func118 (by kernel_rfl) rfl #[.string a0_6, .bool (decide (t223 > 1))] (by rfl) rfl rfl (by (try simp only [List.map_toArray, List.map_cons, List.map_nil]); first | done | rfl | (simp only [List.length_drop, List.length_take]; rfl)) ?_
    with_reducible refine (impl_nameFits.calls k a0_6 (decide (t223 > 1)) t224 _ A10.out).mono ?_
    rintro e w13 ⟨rfl, hb⟩
    refine ⟨_, rfl, ?_⟩
    have n0_ := Ad_.mk (blk_below (g := gb219) (o := .cells #[.int .i64 a0_0, .int .i64 a0_1, .int .i64 a0_2, .int .i64 a0_3, .int .i64 a0_4, .string a0_5, .string a0_6] 55 (0, 0)) (by (with_reducible repeat (first | refine kN_ ?_ _ | refine k1_ ?_ | refine kA_ ?_ _)); exact BK219.out) hb)
    have n1_ := Ad_.mk (bP_ (by repeat (with_reducible first | exact HB.out | apply bA_ | apply bN_ | apply b1_ | refine bS_ ?_ GE219.out)) hb)
    clear BK219
    clear HB
    have BK219 := n0_
    have HB := n1_
    clear n0_ n1_
    (try clear hb)
    (try clear hb2)
    (try clear hk)
    (try clear hi)
    refine hK.out _ _ ⟨(kC_ BK219.out 0).trans rfl, (kC_ BK219.out 1).trans rfl, (kC_ BK219.out 2).trans rfl, (kC_ BK219.out 3).trans rfl, (kC_ BK219.out 4).trans rfl, (kC_ BK219.out 5).trans rfl, (kC_ BK219.out 6).trans rfl⟩ (fun hHeld => ?_)
    clear hK K
    refine norm_ (a' := ?_) ?_ ?_
    rotate_left
    ·
     show Act.put _ (some 26) _ = _
     simp only [Act.put, List.setIfInBounds_toArray, List.set_cons_zero, List.set_cons_succ, i64_w, i32_w]
     rfl
    refine pure_ (i := 22) (N := some 27) (v := ?_) (a' := ?_) #[tb_,tb_,tb_,tb_,tb_,tb_,tb_,tb_,tb_,tb_,tb_,tb_,tb_,tb_,tb_,tb_,tb_,tb_,tb_,tb_,tb_,tb_,tb_,fb_] rfl rfl (any_of HT_.out (by kernel_rfl)) (fun _ _ _ h => h) (Or.inl ⟨by rfl, ?_⟩) ?_ ?_
    rotate_left
    ·
     intro w'
     go_simp
     with_reducible rfl
    rotate_left
    ·
     simp only [Act.put, List.setIfInBounds_toArray, List.set_cons_zero, List.set_cons_succ, i64_w, i32_w]
     rfl
    refine pure_ (i := 23) (N := some 28) (v := ?_) (a' := ?_) #[tb_,tb_,tb_,tb_,tb_,tb_,tb_,tb_,tb_,tb_,tb_,tb_,tb_,tb_,tb_,tb_,tb_,tb_,tb_,tb_,tb_,tb_,tb_,tb_] rfl rfl (any_of HT_.out (by kernel_rfl)) (fun _ _ _ h => h) (Or.inl ⟨by rfl, ?_⟩) ?_ ?_
    rotate_left
    ·
     intro w'
     go_simp
     with_reducible rfl
    rotate_left
    ·
     simp only [Act.put, List.setIfInBounds_toArray, List.set_cons_zero, List.set_cons_succ, i64_w, i32_w]
     rfl
    refine done_ (done_of HT_.out (by kernel_rfl)) ?_
    try go_wp2
    go_meet
    case rel => exact ⟨_, (!t224), fs_, H', ⟨by first | omega | exact Nat.le_refl _⟩, ⟨by (with_reducible repeat (first | refine kN_ ?_ _ | refine k1_ ?_ | refine kA_ ?_ _)); exact BK219.out⟩, ⟨by repeat (with_reducible first | exact HB.out | apply bA_ | apply bN_ | apply b1_ | refine bS_ ?_ GE219.out)⟩⟩
  case rest =>
    clear HC2
    try clear p2
    obtain ⟨kq, x28_1, rfl, HA, HJ1, BK219, HB⟩ := hcut
    cases kq with
    | zero => exact absurd HA.out (by simp [impl_fieldsOk.j0])
    | succ kj1 =>
      have H := HA.out
      clear HA
      simp only [impl_fieldsOk.j0] at H
      by_cases c17 : x28_1 = true
      ·
       subst c17
       have H1 : (some false) = some r := by rw [if_pos rfl] at H; exact H
       clear H
       have H := H1
       clear H1
       obtain rfl := Option.some.inj H
       go_wp2
       go_ret
       exact ⟨by first | rfl | (simp [errW_none, errW_some] <;> rfl) | (simp [*, errW_none, errW_some] <;> rfl), by repeat (with_reducible first | exact HB.out | apply bA_ | apply bN_ | apply b1_ | refine bS_ ?_ GE219.out)⟩
      replace c17 := Bool.eq_false_iff.mpr c17
      subst c17
      have H1 : ((some (([a0_1, a0_2, a0_3] : List Int) : List Int)).bind fun y225 => (impl_fieldsOk.l0 kj1 y225 (y225.length : Int) 0 a0_0 a0_1 a0_2 a0_3 a0_4 a0_5 a0_6)) = some r := by rw [if_neg (show ¬ (false = true) by decide)] at H; exact H
      clear H
      have H := H1
      clear H1
      obtain ⟨y225, hy225⟩ : ∃ y_ : List Int, y_ = (([a0_1, a0_2, a0_3] : List Int)) := ⟨_, rfl⟩
      replace H : (impl_fieldsOk.l0 kj1 y225 (y225.length : Int) 0 a0_0 a0_1 a0_2 a0_3 a0_4 a0_5 a0_6) = some r := by first | (rw [hy225]; with_reducible exact H) | (have H2_ := (Option.bind_some _ _).symm.trans H; rw [hy225]; with_reducible exact H2_) | (have H2_ := (Option.bind_some _ _).symm.trans H; with_reducible exact H2_) | with_reducible exact H | (rw [hy225]; exact H) | exact H
      have Ny225 := Ad_.mk hy225
      clear hy225
      have H' := Ad_.mk H
      clear H
      obtain ⟨hcz18_0, hcz18_1, hcz18_2, hcz18_3, hcz18_4, hcz18_5, hcz18_6⟩ := cells7_ BK219.out
      obtain ⟨hfz18_0, hfz18_1, hfz18_2, hfz18_3, hfz18_4, hfz18_5, hfz18_6⟩ := froz7_ BK219.out
      go_wp2_with (first | ((with_reducible refine gD_ (N := 35) rfl ?_); refine Kd.R_lit (Kd.int .i64) _ 3 ?hg (N := 35) ?hd (xs := ([a0_1, a0_2, a0_3] : List Int)) (inner := [.int .i64 a0_1, .int .i64 a0_2, .int .i64 a0_3]) (ok := fun _ => True) (okp := fun _ => True) ?hr ?hp (fun _ hk => hk) trivial (Below.refl _ _) (Nat.le_refl _) (by simp) ?_; (case hd => rfl); (case hg => rfl); (case hr => first | (go_simp; done) | (go_simp; rfl)); (case hp => exact (Reps.one (show Kd.M (Kd.int .i64) _ _ _ a0_1 [.int .i64 a0_1] from rfl) (Reps.one (show Kd.M (Kd.int .i64) _ _ _ a0_2 [.int .i64 a0_2] from rfl) (Reps.one (show Kd.M (Kd.int .i64) _ _ _ a0_3 [.int .i64 a0_3] from rfl) (Reps.none _ _))))); intro v226 w19 ho20 hb hg_ hnew_; clear hg_ hnew_; (first | rw [← Ny225.out] at ho20 | (simp only [Int.reduceToNat] at ho20; rw [← Ny225.out] at ho20)); have n0_ := Ad_.mk (Kd.R_lower ho20 (bZ_ (by repeat (with_reducible first | exact HB.out | apply bA_ | apply bN_ | apply b1_ | refine bS_ ?_ GE219.out)))); have n1_ := Ad_.mk (blk_below (g := gb219) (o := .cells #[.int .i64 a0_0, .int .i64 a0_1, .int .i64 a0_2, .int .i64 a0_3, .int .i64 a0_4, .string a0_5, .string a0_6] 55 (0, 0)) (by (with_reducible repeat (first | refine kN_ ?_ _ | refine k1_ ?_ | refine kA_ ?_ _)); exact BK219.out) hb); have n2_ := Ad_.mk (bP_ (by repeat (with_reducible first | exact HB.out | apply bA_ | apply bN_ | apply b1_ | refine bS_ ?_ GE219.out)) hb); clear BK219; clear HB; have HO227 := n0_; have BK219 := n1_; have HB := n2_; clear n0_ n1_ n2_; clear hb ho20; obtain ⟨Ao21, co21, eo21⟩ := Kd.R_slice HO227.out; subst eo21))
      go_loopg [37] kj1 (fun kq v37 w' => ∃ (x37_2 : Int), v37 = .int .i64 x37_2 ∧ Ad_ (impl_fieldsOk.l0 kq y225 (y225.length : Int) x37_2 a0_0 a0_1 a0_2 a0_3 a0_4 a0_5 a0_6 = some r) ∧ Ad_ (kq ≤ kj1) ∧ Ad_ (Kd.R (Kd.int .i64) 3 w' w.heap.size (fun _ => True) (.slice Ao21 y225.length co21) y225) ∧ Ad_ (w'.heap[gb219]? = some (.cells #[.int .i64 a0_0, .int .i64 a0_1, .int .i64 a0_2, .int .i64 a0_3, .int .i64 a0_4, .string a0_5, .string a0_6] 55 (0, 0))) ∧ Ad_ (Below w.heap.size w w'))
      case atStart => exact ⟨(0), fs_, H', ⟨Nat.le_refl _⟩, ⟨by (with_reducible repeat (first | apply Kd.R_alloc | apply Kd.R_drewN | apply Kd.R_drew)); exact HO227.out⟩, ⟨by (with_reducible repeat (first | refine kN_ ?_ _ | refine k1_ ?_ | refine kA_ ?_ _)); exact BK219.out⟩, ⟨by repeat (with_reducible first | exact HB.out | apply bA_ | apply bN_ | apply b1_ | refine bS_ ?_ GE219.out)⟩⟩
      case round =>
        clear H'
        try clear p2
        try clear hcz18_0 hcz18_1 hcz18_2 hcz18_3 hcz18_4 hcz18_5 hcz18_6
        try clear hfz18_0 hfz18_1 hfz18_2 hfz18_3 hfz18_4 hfz18_5 hfz18_6
        try clear p2
        obtain ⟨x37_2, rfl, HA, HK2, HO_35, BK219, HB⟩ := hrel
        cases gk with
        | zero => exact absurd HA.out (by simp [impl_fieldsOk.l0])
        | succ k2 =>
          have H := HA.out
          clear HA
          simp only [impl_fieldsOk.l0] at H
          by_cases c22 : x37_2 < (y225.length : Int)
          rotate_left
          ·
           rw [if_neg c22] at H
           have c22b0 := decide_eq_false c22
           clear c22
           by_cases c31 : a0_0 = 2
           ·
            rw [if_pos c31] at H
            have c31b0 : (a0_0 == 2) = true := beq_iff_eq.mpr c31
            have c31b1 : (a0_0 != 2) = false := bne_eq_false_iff_eq.mpr c31
            clear c31
            replace H := Option.bind_eq_some_iff.mp H
            obtain ⟨t230, A320, H⟩ := H
            replace H : (some t230) = some r := H
            have A32 := Ad_.mk A320
            clear A320
            obtain rfl := Option.some.inj H
            obtain ⟨hcz33_0, hcz33_1, hcz33_2, hcz33_3, hcz33_4, hcz33_5, hcz33_6⟩ := cells7_ BK219.out
            obtain ⟨hfz33_0, hfz33_1, hfz33_2, hfz33_3, hfz33_4, hfz33_5, hfz33_6⟩ := froz7_ BK219.out
            go_wp2_with (first | ((with_reducible refine gC_ (f := 71) rfl ?_); refine gM_ (some 58) rfl rfl Tryd.func71 (by kernel_rfl) rfl #[.int .i64 a0_4, .int .i64 0, .int .i64 65535] rfl ?_; (with_reducible refine (impl_in.calls a0_4 0 65535 t230 _ A32.out).mono ?_); rintro e w' ⟨rfl, ⟨nd, rfl⟩⟩; refine ⟨_, rfl, ?_⟩))
            go_ret
            exact ⟨by first | rfl | (simp [errW_none, errW_some] <;> rfl) | (simp [*, errW_none, errW_some] <;> rfl), by repeat (with_reducible first | exact HB.out | apply bA_ | apply bN_ | apply b1_ | refine bS_ ?_ GE219.out)⟩
           rw [if_neg c31] at H
           have c31b0 : (a0_0 == 2) = false := beq_eq_false_iff_ne.mpr c31
           have c31b1 : (a0_0 != 2) = true := bne_iff_ne.mpr c31
           by_cases c34 : a0_0 = 8
           rotate_left
           ·
            rw [if_neg c34] at H
            have c34b0 : (a0_0 == 8) = false := beq_eq_false_iff_ne.mpr c34
            have c34b1 : (a0_0 != 8) = true := bne_iff_ne.mpr c34
            obtain rfl := Option.some.inj H
            obtain ⟨hcz37_0, hcz37_1, hcz37_2, hcz37_3, hcz37_4, hcz37_5, hcz37_6⟩ := cells7_ BK219.out
            obtain ⟨hfz37_0, hfz37_1, hfz37_2, hfz37_3, hfz37_4, hfz37_5, hfz37_6⟩ := froz7_ BK219.out
            go_wp2
            go_ret
            exact ⟨by first | rfl | (simp [errW_none, errW_some] <;> rfl) | (simp [*, errW_none, errW_some] <;> rfl), by repeat (with_reducible first | exact HB.out | apply bA_ | apply bN_ | apply b1_ | refine bS_ ?_ GE219.out)⟩
           rw [if_pos c34] at H
           have c34b0 : (a0_0 == 8) = true := beq_iff_eq.mpr c34
           have c34b1 : (a0_0 != 8) = false := bne_eq_false_iff_eq.mpr c34
           clear c34
           replace H := Option.bind_eq_some_iff.mp H
           obtain ⟨t231, A350, H⟩ := H
           replace H : (some t231) = some r := H
           have A35 := Ad_.mk A350
           clear A350
           obtain rfl := Option.some.inj H
           obtain ⟨hcz36_0, hcz36_1, hcz36_2, hcz36_3, hcz36_4, hcz36_5, hcz36_6⟩ := cells7_ BK219.out
           obtain ⟨hfz36_0, hfz36_1, hfz36_2, hfz36_3, hfz36_4, hfz36_5, hfz36_6⟩ := froz7_ BK219.out
           go_wp2_with (first | ((with_reducible refine gC_ (f := 71) rfl ?_); refine gM_ (some 63) rfl rfl Tryd.func71 (by kernel_rfl) rfl #[.int .i64 a0_4, .int .i64 0, .int .i64 3] rfl ?_; (with_reducible refine (impl_in.calls a0_4 0 3 t231 _ A35.out).mono ?_); rintro e w' ⟨rfl, ⟨nd, rfl⟩⟩; refine ⟨_, rfl, ?_⟩))
           go_ret
           exact ⟨by first | rfl | (simp [errW_none, errW_some] <;> rfl) | (simp [*, errW_none, errW_some] <;> rfl), by repeat (with_reducible first | exact HB.out | apply bA_ | apply bN_ | apply b1_ | refine bS_ ?_ GE219.out)⟩
          rw [if_pos c22] at H
          have c22b0 := decide_eq_true c22
          clear c22
          by_cases c23 : 0 ≤ x37_2
          rotate_left
          ·
           rw [if_neg c23] at H
           exact absurd H (by simp)
          rw [if_pos c23] at H
          have c23b0 := decide_eq_true c23
          clear c23
          by_cases c24 : x37_2 < (y225.length : Int)
          rotate_left
          ·
           rw [if_neg c24] at H
           exact absurd H (by simp)
          rw [if_pos c24] at H
          have c24b0 := decide_eq_true c24
          clear c24
          replace H := Option.bind_eq_some_iff.mp H
          obtain ⟨t229, A250, H⟩ := H
          try dsimp only at H
          have A25 := Ad_.mk A250
          clear A250
          by_cases c26 : x37_2 ≥ t229
          rotate_left
          ·
           rw [if_neg c26] at H
           have c26b0 := decide_eq_false c26
           clear c26
           have H' := Ad_.mk H
           clear H
           have p228 : 0 ≤ (x37_2 : Int) := od_
           have q228 : x37_2 < (y225.length : Int) := od_
           obtain ⟨ad228, e228, hx228_0⟩ := Kd.at_int (Kd.R_reads' HO_35.out).2.2 x37_2 p228 q228
           cases e228
           replace p228 := eq_true p228
           replace q228 := eq_true q228
           obtain ⟨hcz30_0, hcz30_1, hcz30_2, hcz30_3, hcz30_4, hcz30_5, hcz30_6⟩ := cells7_ BK219.out
           obtain ⟨hfz30_0, hfz30_1, hfz30_2, hfz30_3, hfz30_4, hfz30_5, hfz30_6⟩ := froz7_ BK219.out
           go_wp2_with (first | ((with_reducible refine gC_ (f := 98) rfl ?_); refine gM_ (some 45) rfl rfl Tryd.func98 (by kernel_rfl) rfl #[.int .i64 a0_0] rfl ?_; (with_reducible refine (impl_Arity.calls k2 a0_0 t229 _ A25.out).mono ?_); rintro e w' ⟨rfl, ⟨nd, rfl⟩⟩; refine ⟨_, rfl, ?_⟩))
           go_roundg k2
           case measure => have := HJ1.out; have := HK2.out; omega
           case rel => exact ⟨(wrap64 (x37_2 + 1)), fs_, H', ⟨by have := HJ1.out; have := HK2.out; omega⟩, ⟨by (with_reducible repeat (first | apply Kd.R_alloc | apply Kd.R_drewN | apply Kd.R_drew)); exact HO_35.out⟩, ⟨by (with_reducible repeat (first | refine kN_ ?_ _ | refine k1_ ?_ | refine kA_ ?_ _)); exact BK219.out⟩, ⟨by repeat (with_reducible first | exact HB.out | apply bA_ | apply bN_ | apply b1_ | refine bS_ ?_ GE219.out)⟩⟩
          rw [if_pos c26] at H
          have c26b0 := decide_eq_true c26
          clear c26
          by_cases c27 : (rd y225 x37_2) = 0
          rotate_left
          ·
           rw [if_neg c27] at H
           have c27b0 : ((rd y225 x37_2) == 0) = false := beq_eq_false_iff_ne.mpr c27
           have c27b1 : ((rd y225 x37_2) != 0) = true := bne_iff_ne.mpr c27
           obtain rfl := Option.some.inj H
           have p228 : 0 ≤ (x37_2 : Int) := od_
           have q228 : x37_2 < (y225.length : Int) := od_
           obtain ⟨ad228, e228, hx228_0⟩ := Kd.at_int (Kd.R_reads' HO_35.out).2.2 x37_2 p228 q228
           cases e228
           replace p228 := eq_true p228
           replace q228 := eq_true q228
           obtain ⟨hcz29_0, hcz29_1, hcz29_2, hcz29_3, hcz29_4, hcz29_5, hcz29_6⟩ := cells7_ BK219.out
           obtain ⟨hfz29_0, hfz29_1, hfz29_2, hfz29_3, hfz29_4, hfz29_5, hfz29_6⟩ := froz7_ BK219.out
           go_wp2_with (first | ((with_reducible refine gC_ (f := 98) rfl ?_); refine gM_ (some 45) rfl rfl Tryd.func98 (by kernel_rfl) rfl #[.int .i64 a0_0] rfl ?_; (with_reducible refine (impl_Arity.calls k2 a0_0 t229 _ A25.out).mono ?_); rintro e w' ⟨rfl, ⟨nd, rfl⟩⟩; refine ⟨_, rfl, ?_⟩))
           go_ret
           exact ⟨by first | rfl | (simp [errW_none, errW_some] <;> rfl) | (simp [*, errW_none, errW_some] <;> rfl), by repeat (with_reducible first | exact HB.out | apply bA_ | apply bN_ | apply b1_ | refine bS_ ?_ GE219.out)⟩
          rw [if_pos c27] at H
          have c27b0 : ((rd y225 x37_2) == 0) = true := beq_iff_eq.mpr c27
          have c27b1 : ((rd y225 x37_2) != 0) = false := bne_eq_false_iff_eq.mpr c27
          clear c27
          have H' := Ad_.mk H
          clear H
          have p228 : 0 ≤ (x37_2 : Int) := od_
          have q228 : x37_2 < (y225.length : Int) := od_
          obtain ⟨ad228, e228, hx228_0⟩ := Kd.at_int (Kd.R_reads' HO_35.out).2.2 x37_2 p228 q228
          cases e228
          replace p228 := eq_true p228
          replace q228 := eq_true q228
          obtain ⟨hcz28_0, hcz28_1, hcz28_2, hcz28_3, hcz28_4, hcz28_5, hcz28_6⟩ := cells7_ BK219.out
          obtain ⟨hfz28_0, hfz28_1, hfz28_2, hfz28_3, hfz28_4, hfz28_5, hfz28_6⟩ := froz7_ BK219.out
          go_wp2_with (first | ((with_reducible refine gC_ (f := 98) rfl ?_); refine gM_ (some 45) rfl rfl Tryd.func98 (by kernel_rfl) rfl #[.int .i64 a0_0] rfl ?_; (with_reducible refine (impl_Arity.calls k2 a0_0 t229 _ A25.out).mono ?_); rintro e w' ⟨rfl, ⟨nd, rfl⟩⟩; refine ⟨_, rfl, ?_⟩))
          go_roundg k2
          case measure => have := HJ1.out; have := HK2.out; omega
          case rel => exact ⟨(wrap64 (x37_2 + 1)), fs_, H', ⟨by have := HJ1.out; have := HK2.out; omega⟩, ⟨by (with_reducible repeat (first | apply Kd.R_alloc | apply Kd.R_drewN | apply Kd.R_drew)); exact HO_35.out⟩, ⟨by (with_reducible repeat (first | refine kN_ ?_ _ | refine k1_ ?_ | refine kA_ ?_ _)); exact BK219.out⟩, ⟨by repeat (with_reducible first | exact HB.out | apply bA_ | apply bN_ | apply b1_ | refine bS_ ?_ GE219.out)⟩⟩
end Go.Proofs.YtfmlamheflbgdaaDoor.PAll
end
section
namespace Go.Proofs.YtfmlamheflbgdaaDoor.PAll
open Go.RowKit Go.Proofs.YtfmlamheflbgdaaDoorW.PrintWords Go.Proofs.YtfmlamheflbgdaaDoorW.PrintLast Go.Proofs.YtfmlamheflbgdaaDoorW.PrintMore
attribute [local go_sem] max2_int min2_int max_two min_two max_three min_three max_four min_four
set_option linter.unusedVariables false
set_option linter.unusedSimpArgs false
mutual
def impl_NodesOk.l0 : Nat → List (S55) → List Int → List (S55) → Int → Int → Option (Bool)
  | 0, _, _, _, _, _ => none
  | k + 1, x0, x3, x16, x17, x18 => if x18 < x17 then (if 0 ≤ x18 then (if x18 < (x16.length : Int) then ((impl_fieldsOk.f k ((rd_T55 x16 x18).f0) ((rd_T55 x16 x18).f1) ((rd_T55 x16 x18).f2) ((rd_T55 x16 x18).f3) ((rd_T55 x16 x18).f4) ((rd_T55 x16 x18).f5) ((rd_T55 x16 x18).f6)).bind fun t239 => (if t239 = true then ((impl_Kids.f k ((rd_T55 x16 x18).f0) ((rd_T55 x16 x18).f1) ((rd_T55 x16 x18).f2) ((rd_T55 x16 x18).f3) ((rd_T55 x16 x18).f4) ((rd_T55 x16 x18).f5) ((rd_T55 x16 x18).f6)).bind fun t240 => (impl_NodesOk.l1 k x0 x3 x18 t240 x18 (wrap64 ((t240.length : Int) - 1)) x16 x17 x18)) else (some false))) else (none)) else (none)) else (if 0 ≤ (wrap64 ((x0.length : Int) - 1)) then (if (wrap64 ((x0.length : Int) - 1)) < (x3.length : Int) then (some ((rd x3 (wrap64 ((x0.length : Int) - 1))) == 0)) else (none)) else (none))
def impl_NodesOk.l1 : Nat → List (S55) → List Int → Int → List Int → Int → Int → List (S55) → Int → Int → Option (Bool)
  | 0, _, _, _, _, _, _, _, _, _ => none
  | k + 1, x0, x3, x4, x6, x7, x8, x16, x17, x18 => if x8 ≥ 0 then (if x7 = 0 then (some false) else (if 0 ≤ x8 then (if x8 < (x6.length : Int) then (if (rd x6 x8) = (wrap64 (x7 - 1)) then (if 0 ≤ (wrap64 (x7 - 1)) then (if (wrap64 (x7 - 1)) < (x3.length : Int) then (impl_NodesOk.l1 k x0 x3 x4 x6 (rd x3 (wrap64 (x7 - 1))) (wrap64 (x8 - 1)) x16 x17 x18) else (none)) else (none)) else (some false)) else (none)) else (none))) else (if 0 ≤ x4 then (if x4 < (x3.length : Int) then (impl_NodesOk.l0 k x0 (x3.set (x4 : Int).toNat x7) x16 x17 (wrap64 (x18 + 1))) else (none)) else (none))
end
def impl_NodesOk.f (k : Nat) (l0 : List (S55)) : Option (Bool) := (impl_in.f (l0.length : Int) 1 150).bind fun t232 => (if t232 = true then (if 0 ≤ (l0.length : Int) then (if ((l0.length : Int) : Int).toNat ≤ 35184372088832 then (impl_NodesOk.l0 k l0 (List.replicate ((l0.length : Int) : Int).toNat 0) l0 (l0.length : Int) 0) else (none)) else (none)) else (some false))
theorem impl_NodesOk.mono_l : ∀ k, (∀ y0 y1 y2 y3 y4, LeO (impl_NodesOk.l0 k y0 y1 y2 y3 y4) (impl_NodesOk.l0 (k + 1) y0 y1 y2 y3 y4)) ∧ (∀ y0 y1 y2 y3 y4 y5 y6 y7 y8, LeO (impl_NodesOk.l1 k y0 y1 y2 y3 y4 y5 y6 y7 y8) (impl_NodesOk.l1 (k + 1) y0 y1 y2 y3 y4 y5 y6 y7 y8))
  | 0 => ⟨fun _ _ _ _ _ r h => by simp [impl_NodesOk.l0] at h, fun _ _ _ _ _ _ _ _ _ r h => by simp [impl_NodesOk.l1] at h⟩
  | k + 1 => by
    obtain ⟨ih0, ih1⟩ := impl_NodesOk.mono_l k
    refine ⟨?_, ?_⟩
    (intro y0 y1 y2 y3 y4; unfold impl_NodesOk.l0; rotate_left)
    (intro y0 y1 y2 y3 y4 y5 y6 y7 y8; unfold impl_NodesOk.l1; rotate_left)
    all_goals
      repeat' first
      | (with_reducible exact ih0 _ _ _ _ _)
      | (with_reducible exact ih1 _ _ _ _ _ _ _ _ _)
      | (with_reducible exact impl_Kids.mono _ _ _ _ _ _ _ _)
      | (with_reducible exact impl_fieldsOk.mono _ _ _ _ _ _ _ _)
      | (with_reducible exact LeO.refl _)
      | (with_reducible exact LeO.none _)
      | (with_reducible refine LeO.ite ?_ ?_)
      | (with_reducible refine LeO.bind ?_ (fun _ => ?_))
      | exact LeO.none _
      | refine LeO.ite ?_ ?_
      | refine LeO.bind ?_ (fun _ => ?_)
theorem impl_NodesOk.mono : ∀ a0 k, LeO (impl_NodesOk.f k a0) (impl_NodesOk.f (k + 1) a0) := by
  intro a0 k
  obtain ⟨ih0, ih1⟩ := impl_NodesOk.mono_l k
  unfold impl_NodesOk.f
  repeat' first
      | (with_reducible exact ih0 _ _ _ _ _)
      | (with_reducible exact ih1 _ _ _ _ _ _ _ _ _)
      | (with_reducible exact impl_Kids.mono _ _ _ _ _ _ _ _)
      | (with_reducible exact impl_fieldsOk.mono _ _ _ _ _ _ _ _)
      | (with_reducible exact LeO.refl _)
      | (with_reducible exact LeO.none _)
      | (with_reducible refine LeO.ite ?_ ?_)
      | (with_reducible refine LeO.bind ?_ (fun _ => ?_))
      | exact LeO.none _
      | refine LeO.ite ?_ ?_
      | refine LeO.bind ?_ (fun _ => ?_)
set_option maxHeartbeats 8000000 in
set_option maxRecDepth 100000 in
theorem impl_NodesOk.calls (k : Nat) (A0 : Option Addr) (c0 : Nat) (l0 : List (S55)) (r : Bool) (w : World) (hr0 : Kd.C k55 w A0 l0.length l0) (hc0 : l0.length ≤ c0) (h : impl_NodesOk.f k l0 = some r) :
    Calls Tryd.prog 48 #[.slice A0 l0.length c0] w fun e w' => e = .returned (.bool r) ∧ Below w.heap.size w w' := by
  have hu55 := Tryd.underlying55
  have HR0 := Ad_.mk hr0
  have HC0 := Ad_.mk hc0
  clear hr0 hc0
  have HB := Ad_.mk (Below.refl w.heap.size w)
  have H := h
  unfold impl_NodesOk.f at H
  clear h
  replace H := Option.bind_eq_some_iff.mp H
  obtain ⟨t232, A20, H⟩ := H
  try dsimp only at H
  have A2 := Ad_.mk A20
  clear A20
  by_cases c3 : t232 = true
  rotate_left
  ·
   replace c3 := Bool.eq_false_iff.mpr c3
   subst c3
   have H1 : (some false) = some r := by rw [if_neg (show ¬ (false = true) by decide)] at H; exact H
   clear H
   have H := H1
   clear H1
   obtain rfl := Option.some.inj H
   go_enter Tryd.func48, Tryd.ntmps48
   go_wp2_with (first | ((with_reducible refine gC_ (f := 71) rfl ?_); refine gM_ (some 11) rfl rfl Tryd.func71 (by kernel_rfl) rfl #[.int .i64 (l0.length : Int), .int .i64 1, .int .i64 150] rfl ?_; (with_reducible refine (impl_in.calls (l0.length : Int) 1 150 false _ A2.out).mono ?_); rintro e w' ⟨rfl, ⟨nd, rfl⟩⟩; refine ⟨_, rfl, ?_⟩))
   go_ret
   exact ⟨by first | rfl | (simp [errW_none, errW_some] <;> rfl) | (simp [*, errW_none, errW_some] <;> rfl), by repeat (with_reducible first | exact HB.out | apply bA_ | apply bN_ | apply b1_)⟩
  subst c3
  have H1 := H
  rw [if_pos rfl] at H1
  clear H
  have H := H1
  clear H1
  by_cases c4 : 0 ≤ (l0.length : Int)
  rotate_left
  ·
   rw [if_neg c4] at H
   exact absurd H (by simp)
  rw [if_pos c4] at H
  have c4b0 := eq_true c4
  have c4b1 := decide_eq_true c4
  clear c4
  by_cases c5 : ((l0.length : Int) : Int).toNat ≤ 35184372088832
  rotate_left
  ·
   rw [if_neg c5] at H
   exact absurd H (by simp)
  rw [if_pos c5] at H
  have c5b0 := eq_true c5
  have c5b1 := decide_eq_true c5
  clear c5
  obtain ⟨y233, hy233⟩ : ∃ y_ : List Int, y_ = (List.replicate ((l0.length : Int) : Int).toNat 0) := ⟨_, rfl⟩
  replace H : (impl_NodesOk.l0 k l0 y233 l0 (l0.length : Int) 0) = some r := by first | (rw [hy233]; with_reducible exact H) | (have H2_ := (Option.bind_some _ _).symm.trans H; rw [hy233]; with_reducible exact H2_) | (have H2_ := (Option.bind_some _ _).symm.trans H; with_reducible exact H2_) | with_reducible exact H | (rw [hy233]; exact H) | exact H
  have Ny233 := Ad_.mk hy233
  clear hy233
  have H' := Ad_.mk H
  clear H
  go_enter Tryd.func48, Tryd.ntmps48
  go_wp2_with (first | ((with_reducible refine gC_ (f := 71) rfl ?_); refine gM_ (some 11) rfl rfl Tryd.func71 (by kernel_rfl) rfl #[.int .i64 (l0.length : Int), .int .i64 1, .int .i64 150] rfl ?_; (with_reducible refine (impl_in.calls (l0.length : Int) 1 150 true _ A2.out).mono ?_); rintro e w' ⟨rfl, ⟨nd, rfl⟩⟩; refine ⟨_, rfl, ?_⟩) | ((with_reducible refine gD_ (N := 15) rfl ?_); refine Kd.R_make (Kd.int .i64) _ 3 rfl (N := 15) rfl 31 _ _ rfl (l0.length : Int) rfl rfl Tryd.underlying31 (.int .i64 0) 8 info3 rfl (by decide) (by omega) 0 (ok := fun _ => True) (okp := fun _ => True) rfl (fun _ hk => hk) trivial (od_) (Nat.le_trans (Nat.mul_le_mul_right _ (od_ : (l0.length : Int).toNat ≤ 35184372088832)) (by omega)) (Below.refl _ _) (Nat.le_refl _) ?_; intro v234 w6 ho7 hb hg_ hnew_; clear hg_ hnew_; (first | rw [← Ny233.out] at ho7 | (simp only [Int.reduceToNat] at ho7; rw [← Ny233.out] at ho7)); have n0_ := Ad_.mk (Kd.R_lower ho7 (bZ_ (by repeat (with_reducible first | exact HB.out | apply bA_ | apply bN_ | apply b1_)))); have n1_ := Ad_.mk (bP_ (by repeat (with_reducible first | exact HB.out | apply bA_ | apply bN_ | apply b1_)) hb); clear HB; have HO235 := n0_; have HB := n1_; clear n0_ n1_; clear hb ho7))
  go_loopg [18] k (fun kq v18 w' => ∃ (x3_1 : List Int) (x18_1 : Int), v18 = .int .i64 x18_1 ∧ Ad_ (impl_NodesOk.l0 kq l0 x3_1 l0 (l0.length : Int) x18_1 = some r) ∧ Ad_ (kq ≤ k) ∧ Ad_ (Kd.R (Kd.int .i64) 3 w' w.heap.size (fun _ => True) v234 x3_1) ∧ Ad_ (Below w.heap.size w w'))
  case atStart => exact ⟨(y233), (0), fs_, H', ⟨Nat.le_refl _⟩, ⟨by (with_reducible repeat (first | apply Kd.R_alloc | apply Kd.R_drewN | apply Kd.R_drew)); exact HO235.out⟩, ⟨by repeat (with_reducible first | exact HB.out | apply bA_ | apply bN_ | apply b1_)⟩⟩
  case round =>
    clear H'
    try clear p2
    try clear c4b0 c4b1
    try clear c5b0 c5b1
    obtain ⟨x3_1, x18_1, rfl, HA, HK1, HO_3, HB⟩ := hrel
    cases gk with
    | zero => exact absurd HA.out (by simp [impl_NodesOk.l0])
    | succ k1 =>
      have H := HA.out
      clear HA
      simp only [impl_NodesOk.l0] at H
      by_cases c8 : x18_1 < (l0.length : Int)
      rotate_left
      ·
       rw [if_neg c8] at H
       have c8b0 := decide_eq_false c8
       clear c8
       obtain ⟨ji37, hji37⟩ : ∃ j_ : Int, (wrap64 ((l0.length : Int) - 1)) = j_ := ⟨_, rfl⟩
       replace H : (if 0 ≤ (ji37) then (if (ji37) < (x3_1.length : Int) then (some ((rd x3_1 (ji37)) == 0)) else (none)) else (none)) = some r := by first | (rw [hji37] at H; exact H) | (simp only [hji37] at H ⊢; exact H)
       have hji37w : (IntKind.i64.wrap ((l0.length : Int) - 1)) = ji37 := (i64_w _).trans hji37
       by_cases c38 : 0 ≤ (ji37)
       rotate_left
       ·
        rw [if_neg c38] at H
        exact absurd H (by simp)
       rw [if_pos c38] at H
       have c38b0 := decide_eq_true c38
       clear c38
       by_cases c39 : (ji37) < (x3_1.length : Int)
       rotate_left
       ·
        rw [if_neg c39] at H
        exact absurd H (by simp)
       rw [if_pos c39] at H
       have c39b0 := decide_eq_true c39
       clear c39
       obtain rfl := Option.some.inj H
       obtain ⟨Ao40, co40, eo40⟩ := Kd.R_slice HO_3.out
       subst eo40
       have p236 : 0 ≤ ((ji37) : Int) := od_
       have q236 : (ji37) < (x3_1.length : Int) := od_
       obtain ⟨ad236, e236, hx236_0⟩ := Kd.at_int (Kd.R_reads' HO_3.out).2.2 (ji37) p236 q236
       cases e236
       replace p236 := eq_true p236
       replace q236 := eq_true q236
       go_wp2
       go_ret
       exact ⟨by first | rfl | (simp [errW_none, errW_some] <;> rfl) | (simp only [← hji37]; first | rfl | (simp [errW_none, errW_some] <;> rfl)) | (simp [*, errW_none, errW_some] <;> rfl), by repeat (with_reducible first | exact HB.out | apply bA_ | apply bN_ | apply b1_)⟩
      rw [if_pos c8] at H
      have c8b0 := decide_eq_true c8
      clear c8
      by_cases c9 : 0 ≤ x18_1
      rotate_left
      ·
       rw [if_neg c9] at H
       exact absurd H (by simp)
      rw [if_pos c9] at H
      have c9b0 := decide_eq_true c9
      clear c9
      by_cases c10 : x18_1 < (l0.length : Int)
      rotate_left
      ·
       rw [if_neg c10] at H
       exact absurd H (by simp)
      rw [if_pos c10] at H
      have c10b0 := decide_eq_true c10
      clear c10
      replace H := Option.bind_eq_some_iff.mp H
      obtain ⟨t239, A110, H⟩ := H
      try dsimp only at H
      have A11 := Ad_.mk A110
      clear A110
      by_cases c12 : t239 = true
      rotate_left
      ·
       replace c12 := Bool.eq_false_iff.mpr c12
       subst c12
       have H1 : (some false) = some r := by rw [if_neg (show ¬ (false = true) by decide)] at H; exact H
       clear H
       have H := H1
       clear H1
       obtain rfl := Option.some.inj H
       have p237 : 0 ≤ (x18_1 : Int) := od_
       have q237 : x18_1 < (l0.length : Int) := od_
       obtain ⟨ad237, e237, hx237_0, hx237_1, hx237_2, hx237_3, hx237_4, hx237_5, hx237_6⟩ := at_T55 HR0.out x18_1 p237 q237
       cases e237
       replace hx237_0 := pB_ HB.out hx237_0
       replace hx237_1 := pB_ HB.out hx237_1
       replace hx237_2 := pB_ HB.out hx237_2
       replace hx237_3 := pB_ HB.out hx237_3
       replace hx237_4 := pB_ HB.out hx237_4
       replace hx237_5 := pB_ HB.out hx237_5
       replace hx237_6 := pB_ HB.out hx237_6
       replace p237 := eq_true p237
       replace q237 := eq_true q237
       go_wp2_with (first | ((with_reducible refine gD_ (N := 5) rfl ?_); refine bE_ ?hg (N := 5) ?hd (cs := #[.int .i64 0, .int .i64 0, .int .i64 0, .int .i64 0, .int .i64 0, .string (⟨#[]⟩ : ByteArray), .string (⟨#[]⟩ : ByteArray)]) (t := 55) ?hr ?_; (case hd => rfl); (case hg => rfl); (case hr => first | (go_simp; done) | (go_simp; rfl)); intro gb238 hg w34 hbox hb; have n0_ := Ad_.mk (Kd.R_below (by (with_reducible repeat (first | apply Kd.R_alloc | apply Kd.R_drewN | apply Kd.R_drew)); exact HO_3.out) hb); have n1_ := Ad_.mk (bP_ (by repeat (with_reducible first | exact HB.out | apply bA_ | apply bN_ | apply b1_)) hb); have n2_ := Ad_.mk (hbox); have n3_ := Ad_.mk ((by rw [hg]; exact (bZ_ (by repeat (with_reducible first | exact HB.out | apply bA_ | apply bN_ | apply b1_))) : w.heap.size ≤ gb238)); have n4_ := Ad_.mk ((by rw [hg]; exact (bZ_ (by repeat (with_reducible first | exact HB.out | apply bA_ | apply bN_ | apply b1_))) : w.heap.size ≤ gb238)); clear HO_3; clear HB; have HO_3 := n0_; have HB := n1_; have BK238 := n2_; have GW238 := n3_; have GE238 := n4_; clear n0_ n1_ n2_ n3_ n4_; clear hb hbox hg; obtain ⟨hcz35_0, hcz35_1, hcz35_2, hcz35_3, hcz35_4, hcz35_5, hcz35_6⟩ := cells7_ BK238.out; obtain ⟨hfz35_0, hfz35_1, hfz35_2, hfz35_3, hfz35_4, hfz35_5, hfz35_6⟩ := froz7_ BK238.out) | ((with_reducible refine gC_ (f := 93) rfl ?_); refine gM_ (some 24) rfl rfl Tryd.func93 (by kernel_rfl) rfl #[.agg #[.int .i64 ((rd_T55 l0 x18_1).f0), .int .i64 ((rd_T55 l0 x18_1).f1), .int .i64 ((rd_T55 l0 x18_1).f2), .int .i64 ((rd_T55 l0 x18_1).f3), .int .i64 ((rd_T55 l0 x18_1).f4), .string ((rd_T55 l0 x18_1).f5), .string ((rd_T55 l0 x18_1).f6)]] rfl ?_; (with_reducible refine (impl_fieldsOk.calls k1 ((rd_T55 l0 x18_1).f0) ((rd_T55 l0 x18_1).f1) ((rd_T55 l0 x18_1).f2) ((rd_T55 l0 x18_1).f3) ((rd_T55 l0 x18_1).f4) ((rd_T55 l0 x18_1).f5) ((rd_T55 l0 x18_1).f6) false _ A11.out).mono ?_); rintro e w36 ⟨rfl, hb⟩; refine ⟨_, rfl, ?_⟩; have n0_ := Ad_.mk (Kd.R_below (by (with_reducible repeat (first | apply Kd.R_alloc | apply Kd.R_drewN | apply Kd.R_drew)); exact (Kd.R_mono (Kd.R_far (p := ⟨gb238, 6, none⟩) (Kd.R_far (p := ⟨gb238, 5, none⟩) (Kd.R_far (p := ⟨gb238, 4, none⟩) (Kd.R_far (p := ⟨gb238, 3, none⟩) (Kd.R_far (p := ⟨gb238, 2, none⟩) (Kd.R_far (p := ⟨gb238, 1, none⟩) (Kd.R_far (p := ⟨gb238, 0, none⟩) (Kd.R_types HO_3.out BK238.out (by decide)) (fun _ hk => hk.2) (.int .i64 ((rd_T55 l0 x18_1).f0))) (fun _ hk => hk.2) (.int .i64 ((rd_T55 l0 x18_1).f1))) (fun _ hk => hk.2) (.int .i64 ((rd_T55 l0 x18_1).f2))) (fun _ hk => hk.2) (.int .i64 ((rd_T55 l0 x18_1).f3))) (fun _ hk => hk.2) (.int .i64 ((rd_T55 l0 x18_1).f4))) (fun _ hk => hk.2) (.string ((rd_T55 l0 x18_1).f5))) (fun _ hk => hk.2) (.string ((rd_T55 l0 x18_1).f6))) (fun _ h_ => h_.1))) hb); have n1_ := Ad_.mk (blk_below (g := gb238) (o := .cells #[.int .i64 ((rd_T55 l0 x18_1).f0), .int .i64 ((rd_T55 l0 x18_1).f1), .int .i64 ((rd_T55 l0 x18_1).f2), .int .i64 ((rd_T55 l0 x18_1).f3), .int .i64 ((rd_T55 l0 x18_1).f4), .string ((rd_T55 l0 x18_1).f5), .string ((rd_T55 l0 x18_1).f6)] 55 (0, 0)) (by (with_reducible repeat (first | refine kN_ ?_ _ | refine k1_ ?_ | refine kA_ ?_ _)); refine blk_put (cs := #[.int .i64 ((rd_T55 l0 x18_1).f0), .int .i64 ((rd_T55 l0 x18_1).f1), .int .i64 ((rd_T55 l0 x18_1).f2), .int .i64 ((rd_T55 l0 x18_1).f3), .int .i64 ((rd_T55 l0 x18_1).f4), .string ((rd_T55 l0 x18_1).f5), .string (⟨#[]⟩ : ByteArray)]) ?_ 6 _ rfl; (with_reducible repeat (first | refine kN_ ?_ _ | refine k1_ ?_ | refine kA_ ?_ _)); refine blk_put (cs := #[.int .i64 ((rd_T55 l0 x18_1).f0), .int .i64 ((rd_T55 l0 x18_1).f1), .int .i64 ((rd_T55 l0 x18_1).f2), .int .i64 ((rd_T55 l0 x18_1).f3), .int .i64 ((rd_T55 l0 x18_1).f4), .string (⟨#[]⟩ : ByteArray), .string (⟨#[]⟩ : ByteArray)]) ?_ 5 _ rfl; (with_reducible repeat (first | refine kN_ ?_ _ | refine k1_ ?_ | refine kA_ ?_ _)); refine blk_put (cs := #[.int .i64 ((rd_T55 l0 x18_1).f0), .int .i64 ((rd_T55 l0 x18_1).f1), .int .i64 ((rd_T55 l0 x18_1).f2), .int .i64 ((rd_T55 l0 x18_1).f3), .int .i64 0, .string (⟨#[]⟩ : ByteArray), .string (⟨#[]⟩ : ByteArray)]) ?_ 4 _ rfl; (with_reducible repeat (first | refine kN_ ?_ _ | refine k1_ ?_ | refine kA_ ?_ _)); refine blk_put (cs := #[.int .i64 ((rd_T55 l0 x18_1).f0), .int .i64 ((rd_T55 l0 x18_1).f1), .int .i64 ((rd_T55 l0 x18_1).f2), .int .i64 0, .int .i64 0, .string (⟨#[]⟩ : ByteArray), .string (⟨#[]⟩ : ByteArray)]) ?_ 3 _ rfl; (with_reducible repeat (first | refine kN_ ?_ _ | refine k1_ ?_ | refine kA_ ?_ _)); refine blk_put (cs := #[.int .i64 ((rd_T55 l0 x18_1).f0), .int .i64 ((rd_T55 l0 x18_1).f1), .int .i64 0, .int .i64 0, .int .i64 0, .string (⟨#[]⟩ : ByteArray), .string (⟨#[]⟩ : ByteArray)]) ?_ 2 _ rfl; (with_reducible repeat (first | refine kN_ ?_ _ | refine k1_ ?_ | refine kA_ ?_ _)); refine blk_put (cs := #[.int .i64 ((rd_T55 l0 x18_1).f0), .int .i64 0, .int .i64 0, .int .i64 0, .int .i64 0, .string (⟨#[]⟩ : ByteArray), .string (⟨#[]⟩ : ByteArray)]) ?_ 1 _ rfl; (with_reducible repeat (first | refine kN_ ?_ _ | refine k1_ ?_ | refine kA_ ?_ _)); refine blk_put (cs := #[.int .i64 0, .int .i64 0, .int .i64 0, .int .i64 0, .int .i64 0, .string (⟨#[]⟩ : ByteArray), .string (⟨#[]⟩ : ByteArray)]) ?_ 0 _ rfl; (with_reducible repeat (first | refine kN_ ?_ _ | refine k1_ ?_ | refine kA_ ?_ _)); exact BK238.out) hb); have n2_ := Ad_.mk (bP_ (by repeat (with_reducible first | exact HB.out | apply bA_ | apply bN_ | apply b1_ | refine bS_ ?_ GE238.out)) hb); clear HO_3; clear BK238; clear HB; have HO_3 := n0_; have BK238 := n1_; have HB := n2_; clear n0_ n1_ n2_; (try clear hb); (try clear hb2); (try clear hk); (try clear hi)))
       go_ret
       exact ⟨by first | rfl | (simp [errW_none, errW_some] <;> rfl) | (simp [*, errW_none, errW_some] <;> rfl), by repeat (with_reducible first | exact HB.out | apply bA_ | apply bN_ | apply b1_ | refine bS_ ?_ GE238.out)⟩
      subst c12
      have H1 := H
      rw [if_pos rfl] at H1
      clear H
      have H := H1
      clear H1
      replace H := Option.bind_eq_some_iff.mp H
      obtain ⟨t240, A130, H⟩ := H
      try dsimp only at H
      have A13 := Ad_.mk A130
      clear A130
      have H' := Ad_.mk H
      clear H
      have p237 : 0 ≤ (x18_1 : Int) := od_
      have q237 : x18_1 < (l0.length : Int) := od_
      obtain ⟨ad237, e237, hx237_0, hx237_1, hx237_2, hx237_3, hx237_4, hx237_5, hx237_6⟩ := at_T55 HR0.out x18_1 p237 q237
      cases e237
      replace hx237_0 := pB_ HB.out hx237_0
      replace hx237_1 := pB_ HB.out hx237_1
      replace hx237_2 := pB_ HB.out hx237_2
      replace hx237_3 := pB_ HB.out hx237_3
      replace hx237_4 := pB_ HB.out hx237_4
      replace hx237_5 := pB_ HB.out hx237_5
      replace hx237_6 := pB_ HB.out hx237_6
      replace p237 := eq_true p237
      replace q237 := eq_true q237
      go_wp2_with (first | ((with_reducible refine gD_ (N := 5) rfl ?_); refine bE_ ?hg (N := 5) ?hd (cs := #[.int .i64 0, .int .i64 0, .int .i64 0, .int .i64 0, .int .i64 0, .string (⟨#[]⟩ : ByteArray), .string (⟨#[]⟩ : ByteArray)]) (t := 55) ?hr ?_; (case hd => rfl); (case hg => rfl); (case hr => first | (go_simp; done) | (go_simp; rfl)); intro gb238 hg w14 hbox hb; have n0_ := Ad_.mk (Kd.R_below (by (with_reducible repeat (first | apply Kd.R_alloc | apply Kd.R_drewN | apply Kd.R_drew)); exact HO_3.out) hb); have n1_ := Ad_.mk (bP_ (by repeat (with_reducible first | exact HB.out | apply bA_ | apply bN_ | apply b1_)) hb); have n2_ := Ad_.mk (hbox); have n3_ := Ad_.mk ((by rw [hg]; exact (bZ_ (by repeat (with_reducible first | exact HB.out | apply bA_ | apply bN_ | apply b1_))) : w.heap.size ≤ gb238)); have n4_ := Ad_.mk ((by rw [hg]; exact (bZ_ (by repeat (with_reducible first | exact HB.out | apply bA_ | apply bN_ | apply b1_))) : w.heap.size ≤ gb238)); clear HO_3; clear HB; have HO_3 := n0_; have HB := n1_; have BK238 := n2_; have GW238 := n3_; have GE238 := n4_; clear n0_ n1_ n2_ n3_ n4_; clear hb hbox hg; obtain ⟨hcz15_0, hcz15_1, hcz15_2, hcz15_3, hcz15_4, hcz15_5, hcz15_6⟩ := cells7_ BK238.out; obtain ⟨hfz15_0, hfz15_1, hfz15_2, hfz15_3, hfz15_4, hfz15_5, hfz15_6⟩ := froz7_ BK238.out) | ((with_reducible refine gC_ (f := 93) rfl ?_); refine gM_ (some 24) rfl rfl Tryd.func93 (by kernel_rfl) rfl #[.agg #[.int .i64 ((rd_T55 l0 x18_1).f0), .int .i64 ((rd_T55 l0 x18_1).f1), .int .i64 ((rd_T55 l0 x18_1).f2), .int .i64 ((rd_T55 l0 x18_1).f3), .int .i64 ((rd_T55 l0 x18_1).f4), .string ((rd_T55 l0 x18_1).f5), .string ((rd_T55 l0 x18_1).f6)]] rfl ?_; (with_reducible refine (impl_fieldsOk.calls k1 ((rd_T55 l0 x18_1).f0) ((rd_T55 l0 x18_1).f1) ((rd_T55 l0 x18_1).f2) ((rd_T55 l0 x18_1).f3) ((rd_T55 l0 x18_1).f4) ((rd_T55 l0 x18_1).f5) ((rd_T55 l0 x18_1).f6) true _ A11.out).mono ?_); rintro e w16 ⟨rfl, hb⟩; refine ⟨_, rfl, ?_⟩; have n0_ := Ad_.mk (Kd.R_below (by (with_reducible repeat (first | apply Kd.R_alloc | apply Kd.R_drewN | apply Kd.R_drew)); exact (Kd.R_mono (Kd.R_far (p := ⟨gb238, 6, none⟩) (Kd.R_far (p := ⟨gb238, 5, none⟩) (Kd.R_far (p := ⟨gb238, 4, none⟩) (Kd.R_far (p := ⟨gb238, 3, none⟩) (Kd.R_far (p := ⟨gb238, 2, none⟩) (Kd.R_far (p := ⟨gb238, 1, none⟩) (Kd.R_far (p := ⟨gb238, 0, none⟩) (Kd.R_types HO_3.out BK238.out (by decide)) (fun _ hk => hk.2) (.int .i64 ((rd_T55 l0 x18_1).f0))) (fun _ hk => hk.2) (.int .i64 ((rd_T55 l0 x18_1).f1))) (fun _ hk => hk.2) (.int .i64 ((rd_T55 l0 x18_1).f2))) (fun _ hk => hk.2) (.int .i64 ((rd_T55 l0 x18_1).f3))) (fun _ hk => hk.2) (.int .i64 ((rd_T55 l0 x18_1).f4))) (fun _ hk => hk.2) (.string ((rd_T55 l0 x18_1).f5))) (fun _ hk => hk.2) (.string ((rd_T55 l0 x18_1).f6))) (fun _ h_ => h_.1))) hb); have n1_ := Ad_.mk (blk_below (g := gb238) (o := .cells #[.int .i64 ((rd_T55 l0 x18_1).f0), .int .i64 ((rd_T55 l0 x18_1).f1), .int .i64 ((rd_T55 l0 x18_1).f2), .int .i64 ((rd_T55 l0 x18_1).f3), .int .i64 ((rd_T55 l0 x18_1).f4), .string ((rd_T55 l0 x18_1).f5), .string ((rd_T55 l0 x18_1).f6)] 55 (0, 0)) (by (with_reducible repeat (first | refine kN_ ?_ _ | refine k1_ ?_ | refine kA_ ?_ _)); refine blk_put (cs := #[.int .i64 ((rd_T55 l0 x18_1).f0), .int .i64 ((rd_T55 l0 x18_1).f1), .int .i64 ((rd_T55 l0 x18_1).f2), .int .i64 ((rd_T55 l0 x18_1).f3), .int .i64 ((rd_T55 l0 x18_1).f4), .string ((rd_T55 l0 x18_1).f5), .string (⟨#[]⟩ : ByteArray)]) ?_ 6 _ rfl; (with_reducible repeat (first | refine kN_ ?_ _ | refine k1_ ?_ | refine kA_ ?_ _)); refine blk_put (cs := #[.int .i64 ((rd_T55 l0 x18_1).f0), .int .i64 ((rd_T55 l0 x18_1).f1), .int .i64 ((rd_T55 l0 x18_1).f2), .int .i64 ((rd_T55 l0 x18_1).f3), .int .i64 ((rd_T55 l0 x18_1).f4), .string (⟨#[]⟩ : ByteArray), .string (⟨#[]⟩ : ByteArray)]) ?_ 5 _ rfl; (with_reducible repeat (first | refine kN_ ?_ _ | refine k1_ ?_ | refine kA_ ?_ _)); refine blk_put (cs := #[.int .i64 ((rd_T55 l0 x18_1).f0), .int .i64 ((rd_T55 l0 x18_1).f1), .int .i64 ((rd_T55 l0 x18_1).f2), .int .i64 ((rd_T55 l0 x18_1).f3), .int .i64 0, .string (⟨#[]⟩ : ByteArray), .string (⟨#[]⟩ : ByteArray)]) ?_ 4 _ rfl; (with_reducible repeat (first | refine kN_ ?_ _ | refine k1_ ?_ | refine kA_ ?_ _)); refine blk_put (cs := #[.int .i64 ((rd_T55 l0 x18_1).f0), .int .i64 ((rd_T55 l0 x18_1).f1), .int .i64 ((rd_T55 l0 x18_1).f2), .int .i64 0, .int .i64 0, .string (⟨#[]⟩ : ByteArray), .string (⟨#[]⟩ : ByteArray)]) ?_ 3 _ rfl; (with_reducible repeat (first | refine kN_ ?_ _ | refine k1_ ?_ | refine kA_ ?_ _)); refine blk_put (cs := #[.int .i64 ((rd_T55 l0 x18_1).f0), .int .i64 ((rd_T55 l0 x18_1).f1), .int .i64 0, .int .i64 0, .int .i64 0, .string (⟨#[]⟩ : ByteArray), .string (⟨#[]⟩ : ByteArray)]) ?_ 2 _ rfl; (with_reducible repeat (first | refine kN_ ?_ _ | refine k1_ ?_ | refine kA_ ?_ _)); refine blk_put (cs := #[.int .i64 ((rd_T55 l0 x18_1).f0), .int .i64 0, .int .i64 0, .int .i64 0, .int .i64 0, .string (⟨#[]⟩ : ByteArray), .string (⟨#[]⟩ : ByteArray)]) ?_ 1 _ rfl; (with_reducible repeat (first | refine kN_ ?_ _ | refine k1_ ?_ | refine kA_ ?_ _)); refine blk_put (cs := #[.int .i64 0, .int .i64 0, .int .i64 0, .int .i64 0, .int .i64 0, .string (⟨#[]⟩ : ByteArray), .string (⟨#[]⟩ : ByteArray)]) ?_ 0 _ rfl; (with_reducible repeat (first | refine kN_ ?_ _ | refine k1_ ?_ | refine kA_ ?_ _)); exact BK238.out) hb); have n2_ := Ad_.mk (bP_ (by repeat (with_reducible first | exact HB.out | apply bA_ | apply bN_ | apply b1_ | refine bS_ ?_ GE238.out)) hb); clear HO_3; clear BK238; clear HB; have HO_3 := n0_; have BK238 := n1_; have HB := n2_; clear n0_ n1_ n2_; (try clear hb); (try clear hb2); (try clear hk); (try clear hi); obtain ⟨hcz17_0, hcz17_1, hcz17_2, hcz17_3, hcz17_4, hcz17_5, hcz17_6⟩ := cells7_ BK238.out; obtain ⟨hfz17_0, hfz17_1, hfz17_2, hfz17_3, hfz17_4, hfz17_5, hfz17_6⟩ := froz7_ BK238.out) | ((with_reducible refine gC_ (f := 56) rfl ?_); refine gM_ (some 27) rfl rfl Tryd.func56 (by kernel_rfl) rfl #[.agg #[.int .i64 ((rd_T55 l0 x18_1).f0), .int .i64 ((rd_T55 l0 x18_1).f1), .int .i64 ((rd_T55 l0 x18_1).f2), .int .i64 ((rd_T55 l0 x18_1).f3), .int .i64 ((rd_T55 l0 x18_1).f4), .string ((rd_T55 l0 x18_1).f5), .string ((rd_T55 l0 x18_1).f6)]] rfl ?_; (with_reducible refine (impl_Kids.calls k1 ((rd_T55 l0 x18_1).f0) ((rd_T55 l0 x18_1).f1) ((rd_T55 l0 x18_1).f2) ((rd_T55 l0 x18_1).f3) ((rd_T55 l0 x18_1).f4) ((rd_T55 l0 x18_1).f5) ((rd_T55 l0 x18_1).f6) t240 _ A13.out).mono ?_); rintro e w18 ⟨v241, rfl, ho0, hb⟩; refine ⟨_, rfl, ?_⟩; have n0_ := Ad_.mk (Kd.R_below (by (with_reducible repeat (first | apply Kd.R_alloc | apply Kd.R_drewN | apply Kd.R_drew)); exact HO_3.out) hb); have n1_ := Ad_.mk (Kd.V_lower (Kd.V_mono (ok' := fun k_ => some k_ ≠ (v234 : Value).ownBlock ∧ k_ ≠ gb238) ho0 (fun k_ hk_ => ⟨(Kd.fresh' (Kd.R_lt (by (with_reducible repeat (first | apply Kd.R_alloc | apply Kd.R_drewN | apply Kd.R_drew)); exact HO_3.out)) k_ hk_), (Kd.freshB (g := gb238) (o := .cells #[.int .i64 ((rd_T55 l0 x18_1).f0), .int .i64 ((rd_T55 l0 x18_1).f1), .int .i64 ((rd_T55 l0 x18_1).f2), .int .i64 ((rd_T55 l0 x18_1).f3), .int .i64 ((rd_T55 l0 x18_1).f4), .string ((rd_T55 l0 x18_1).f5), .string ((rd_T55 l0 x18_1).f6)] 55 (0, 0)) (by (with_reducible repeat (first | refine kN_ ?_ _ | refine k1_ ?_ | refine kA_ ?_ _)); exact BK238.out) k_ hk_)⟩)) (bZ_ (by repeat (with_reducible first | exact HB.out | apply bA_ | apply bN_ | apply b1_ | refine bS_ ?_ GE238.out)))); have n2_ := Ad_.mk (blk_below (g := gb238) (o := .cells #[.int .i64 ((rd_T55 l0 x18_1).f0), .int .i64 ((rd_T55 l0 x18_1).f1), .int .i64 ((rd_T55 l0 x18_1).f2), .int .i64 ((rd_T55 l0 x18_1).f3), .int .i64 ((rd_T55 l0 x18_1).f4), .string ((rd_T55 l0 x18_1).f5), .string ((rd_T55 l0 x18_1).f6)] 55 (0, 0)) (by (with_reducible repeat (first | refine kN_ ?_ _ | refine k1_ ?_ | refine kA_ ?_ _)); exact BK238.out) hb); have n3_ := Ad_.mk (bP_ (by repeat (with_reducible first | exact HB.out | apply bA_ | apply bN_ | apply b1_ | refine bS_ ?_ GE238.out)) hb); clear HO_3; clear BK238; clear HB; have HO_3 := n0_; have HO242 := n1_; have BK238 := n2_; have HB := n3_; clear n0_ n1_ n2_ n3_; (try clear hb); (try clear hb2); (try clear hk); (try clear hi); (try clear ho0); obtain ⟨Ao19, co19, eo19⟩ := Kd.V_slice HO242.out; subst eo19))
      go_loopg [7, 8] k1 (fun kq v7 v8 w' => ∃ (x7_2 : Int) (x8_2 : Int), v7 = .int .i64 x7_2 ∧ v8 = .int .i64 x8_2 ∧ Ad_ (impl_NodesOk.l1 kq l0 x3_1 x18_1 t240 x7_2 x8_2 l0 (l0.length : Int) x18_1 = some r) ∧ Ad_ (kq ≤ k1) ∧ Ad_ (Kd.R (Kd.int .i64) 3 w' w.heap.size (fun _ => True) v234 x3_1) ∧ Ad_ (Kd.V (Kd.int .i64) 3 w' w.heap.size (fun k_ => some k_ ≠ (v234 : Value).ownBlock ∧ k_ ≠ gb238) (.slice Ao19 t240.length co19) t240) ∧ Ad_ (w'.heap[gb238]? = some (.cells #[.int .i64 ((rd_T55 l0 x18_1).f0), .int .i64 ((rd_T55 l0 x18_1).f1), .int .i64 ((rd_T55 l0 x18_1).f2), .int .i64 ((rd_T55 l0 x18_1).f3), .int .i64 ((rd_T55 l0 x18_1).f4), .string ((rd_T55 l0 x18_1).f5), .string ((rd_T55 l0 x18_1).f6)] 55 (0, 0))) ∧ Ad_ (Below w.heap.size w w'))
      case atStart => exact ⟨(x18_1), (wrap64 ((t240.length : Int) - 1)), fs_, fs_, H', ⟨Nat.le_refl _⟩, ⟨by (with_reducible repeat (first | apply Kd.R_alloc | apply Kd.R_drewN | apply Kd.R_drew)); exact HO_3.out⟩, ⟨by (with_reducible repeat (first | apply Kd.V_alloc | apply Kd.V_drewN | apply Kd.V_drew)); exact HO242.out⟩, ⟨by (with_reducible repeat (first | refine kN_ ?_ _ | refine k1_ ?_ | refine kA_ ?_ _)); exact BK238.out⟩, ⟨by repeat (with_reducible first | exact HB.out | apply bA_ | apply bN_ | apply b1_ | refine bS_ ?_ GE238.out)⟩⟩
      case round =>
        clear H'
        try clear p2
        try clear q2
        try clear hx2
        try clear c4b0 c4b1
        try clear c5b0 c5b1
        try clear p6
        try clear c8b0
        try clear c9b0
        try clear c10b0
        try clear hcz15_0 hcz15_1 hcz15_2 hcz15_3 hcz15_4 hcz15_5 hcz15_6
        try clear hcz17_0 hcz17_1 hcz17_2 hcz17_3 hcz17_4 hcz17_5 hcz17_6
        try clear hfz15_0 hfz15_1 hfz15_2 hfz15_3 hfz15_4 hfz15_5 hfz15_6
        try clear hfz17_0 hfz17_1 hfz17_2 hfz17_3 hfz17_4 hfz17_5 hfz17_6
        try clear hx237_0
        try clear hx237_1
        try clear hx237_2
        try clear hx237_3
        try clear hx237_4
        try clear hx237_5
        try clear hx237_6
        try clear p2
        try clear p237
        try clear q237
        obtain ⟨x7_2, x8_2, rfl, rfl, HA, HK2, HO_3, HO_6, BK238, HB⟩ := hrel
        cases gk with
        | zero => exact absurd HA.out (by simp [impl_NodesOk.l1])
        | succ k2 =>
          have H := HA.out
          clear HA
          simp only [impl_NodesOk.l1] at H
          by_cases c20 : x8_2 ≥ 0
          rotate_left
          ·
           rw [if_neg c20] at H
           have c20b0 := decide_eq_false c20
           clear c20
           by_cases c29 : 0 ≤ x18_1
           rotate_left
           ·
            rw [if_neg c29] at H
            exact absurd H (by simp)
           rw [if_pos c29] at H
           have c29b0 := decide_eq_true c29
           clear c29
           by_cases c30 : x18_1 < (x3_1.length : Int)
           rotate_left
           ·
            rw [if_neg c30] at H
            exact absurd H (by simp)
           rw [if_pos c30] at H
           have c30b0 := decide_eq_true c30
           clear c30
           obtain ⟨y245, hy245⟩ : ∃ y_ : List Int, y_ = (x3_1.set (x18_1 : Int).toNat x7_2) := ⟨_, rfl⟩
           replace H : (impl_NodesOk.l0 k2 l0 y245 l0 (l0.length : Int) (wrap64 (x18_1 + 1))) = some r := by first | (rw [hy245]; with_reducible exact H) | (have H2_ := (Option.bind_some _ _).symm.trans H; rw [hy245]; with_reducible exact H2_) | (have H2_ := (Option.bind_some _ _).symm.trans H; with_reducible exact H2_) | with_reducible exact H | (rw [hy245]; exact H) | exact H
           have Ny245 := Ad_.mk hy245
           clear hy245
           have H' := Ad_.mk H
           clear H
           have p31 : 0 ≤ (x18_1 : Int) := od_
           have q31 : (x18_1 : Int) < ((x3_1.length : Int) : Int) := od_
           obtain ⟨go31, co31, eo31, gb31, gl31, cl31, HG31⟩ := Kd.R_form HO_3.out (by omega)
           (first | cases eo31 | (injection eo31 with ea_ en_ ec_; (first | subst ea_ | (injection ea_ with ea_; subst ea_)); subst ec_; clear en_))
           have GB31 := Ad_.mk gb31
           have GG31 := Ad_.mk HG31
           clear gb31 gl31 HG31
           obtain ⟨hx31_0, hf31_0⟩ := Kd.R_celln 0 HO_3.out (x18_1 : Int) p31 q31
           replace p31 := eq_true p31
           replace q31 := eq_true q31
           have HP32 := Kd.R_putg HO_3.out (x18_1 : Int) x7_2
           go_wp2_with (first | ((with_reducible refine gate_store (t := 3) (p := 55) rfl ?_); refine store_event (t := 3) (p := 55) (v := ?vo_w33) (w1 := (wr.setCell ⟨go31, (x18_1 : Int).toNat, none⟩ (.int .i64 x7_2))) ?hg ?ho ?hn ?hr ?_; (case ho => rfl); (case hg => rfl); (case hn => rfl); (case hr => first | (go_simp; done) | (go_simp; rfl)); intro w33 hw; have hg : wr.grownBy w33 (some go31) := (by rw [hw]; exact HP32.2); have hp_ : Kd.R (Kd.int .i64) 3 w33 w.heap.size (fun _ => True) (.slice (some ⟨go31, 0, none⟩) x3_1.length co31) y245 := (by rw [hw, Ny245.out]; exact HP32.1); clear HP32; have n0_ := Ad_.mk (hp_); have n1_ := Ad_.mk (Kd.V_afterv (v := (.slice (some ⟨go31, 0, none⟩) x3_1.length co31)) (v1 := (.slice (some ⟨go31, 0, none⟩) x3_1.length co31)) (ok := (fun k_ => k_ ≠ gb238)) (by (with_reducible repeat (first | apply Kd.V_alloc | apply Kd.V_drewN | apply Kd.V_drew)); exact Kd.V_mono HO_6.out (fun _ hk => ⟨hk.2, hk.1⟩)) hg (.inl rfl)); have n2_ := Ad_.mk (blk_grown (g := gb238) (o := .cells #[.int .i64 ((rd_T55 l0 x18_1).f0), .int .i64 ((rd_T55 l0 x18_1).f1), .int .i64 ((rd_T55 l0 x18_1).f2), .int .i64 ((rd_T55 l0 x18_1).f3), .int .i64 ((rd_T55 l0 x18_1).f4), .string ((rd_T55 l0 x18_1).f5), .string ((rd_T55 l0 x18_1).f6)] 55 (0, 0)) (by (with_reducible repeat (first | refine kN_ ?_ _ | refine k1_ ?_ | refine kA_ ?_ _)); exact BK238.out) hg (Kd.R_ne HO_3.out BK238.out (by decide))); have n3_ := Ad_.mk ((by rw [hw]; exact bS_ (HB.out) GB31.out : Below w.heap.size w w33)); clear HO_3; clear HO_6; clear BK238; clear HB; have HO_3 := n0_; have HO_6 := n1_; have BK238 := n2_; have HB := n3_; clear n0_ n1_ n2_ n3_; clear hg hw hp_))
           go_roundg k2
           case measure => have := HK1.out; have := HK2.out; omega
           case rel => exact ⟨(y245), (wrap64 (x18_1 + 1)), fs_, H', ⟨by have := HK1.out; have := HK2.out; omega⟩, ⟨by (with_reducible repeat (first | apply Kd.R_alloc | apply Kd.R_drewN | apply Kd.R_drew)); exact HO_3.out⟩, ⟨by repeat (with_reducible first | exact HB.out | apply bA_ | apply bN_ | apply b1_ | refine bS_ ?_ GE238.out)⟩⟩
          rw [if_pos c20] at H
          have c20b0 := decide_eq_true c20
          clear c20
          by_cases c21 : x7_2 = 0
          ·
           rw [if_pos c21] at H
           have c21b0 : (x7_2 == 0) = true := beq_iff_eq.mpr c21
           have c21b1 : (x7_2 != 0) = false := bne_eq_false_iff_eq.mpr c21
           clear c21
           obtain rfl := Option.some.inj H
           go_wp2
           go_ret
           exact ⟨by first | rfl | (simp [errW_none, errW_some] <;> rfl) | (simp [*, errW_none, errW_some] <;> rfl), by repeat (with_reducible first | exact HB.out | apply bA_ | apply bN_ | apply b1_ | refine bS_ ?_ GE238.out)⟩
          rw [if_neg c21] at H
          have c21b0 : (x7_2 == 0) = false := beq_eq_false_iff_ne.mpr c21
          have c21b1 : (x7_2 != 0) = true := bne_iff_ne.mpr c21
          by_cases c22 : 0 ≤ x8_2
          rotate_left
          ·
           rw [if_neg c22] at H
           exact absurd H (by simp)
          rw [if_pos c22] at H
          have c22b0 := decide_eq_true c22
          clear c22
          by_cases c23 : x8_2 < (t240.length : Int)
          rotate_left
          ·
           rw [if_neg c23] at H
           exact absurd H (by simp)
          rw [if_pos c23] at H
          have c23b0 := decide_eq_true c23
          clear c23
          by_cases c24 : (rd t240 x8_2) = (wrap64 (x7_2 - 1))
          rotate_left
          ·
           rw [if_neg c24] at H
           have c24b0 : ((rd t240 x8_2) == (wrap64 (x7_2 - 1))) = false := beq_eq_false_iff_ne.mpr c24
           have c24b1 : ((rd t240 x8_2) != (wrap64 (x7_2 - 1))) = true := bne_iff_ne.mpr c24
           obtain rfl := Option.some.inj H
           have p243 : 0 ≤ (x8_2 : Int) := od_
           have q243 : x8_2 < (t240.length : Int) := od_
           obtain ⟨ad243, e243, hx243_0⟩ := Kd.at_int (Kd.V_reads' HO_6.out).2.2 x8_2 p243 q243
           cases e243
           replace p243 := eq_true p243
           replace q243 := eq_true q243
           go_wp2
           go_ret
           exact ⟨by first | rfl | (simp [errW_none, errW_some] <;> rfl) | (simp [*, errW_none, errW_some] <;> rfl), by repeat (with_reducible first | exact HB.out | apply bA_ | apply bN_ | apply b1_ | refine bS_ ?_ GE238.out)⟩
          rw [if_pos c24] at H
          have c24b0 : ((rd t240 x8_2) == (wrap64 (x7_2 - 1))) = true := beq_iff_eq.mpr c24
          have c24b1 : ((rd t240 x8_2) != (wrap64 (x7_2 - 1))) = false := bne_eq_false_iff_eq.mpr c24
          clear c24
          obtain ⟨ji25, hji25⟩ : ∃ j_ : Int, (wrap64 (x7_2 - 1)) = j_ := ⟨_, rfl⟩
          replace H : (if 0 ≤ (ji25) then (if (ji25) < (x3_1.length : Int) then (impl_NodesOk.l1 k2 l0 x3_1 x18_1 t240 (rd x3_1 (ji25)) (wrap64 (x8_2 - 1)) l0 (l0.length : Int) x18_1) else (none)) else (none)) = some r := by first | (rw [hji25] at H; exact H) | (simp only [hji25] at H ⊢; exact H)
          (try rw [hji25] at c24b0)
          (try rw [hji25] at c24b1)
          have hji25w : (IntKind.i64.wrap (x7_2 - 1)) = ji25 := (i64_w _).trans hji25
          by_cases c26 : 0 ≤ (ji25)
          rotate_left
          ·
           rw [if_neg c26] at H
           exact absurd H (by simp)
          rw [if_pos c26] at H
          have c26b0 := decide_eq_true c26
          clear c26
          by_cases c27 : (ji25) < (x3_1.length : Int)
          rotate_left
          ·
           rw [if_neg c27] at H
           exact absurd H (by simp)
          rw [if_pos c27] at H
          have c27b0 := decide_eq_true c27
          clear c27
          have H' := Ad_.mk H
          clear H
          have p243 : 0 ≤ (x8_2 : Int) := od_
          have q243 : x8_2 < (t240.length : Int) := od_
          obtain ⟨ad243, e243, hx243_0⟩ := Kd.at_int (Kd.V_reads' HO_6.out).2.2 x8_2 p243 q243
          cases e243
          replace p243 := eq_true p243
          replace q243 := eq_true q243
          obtain ⟨Ao28, co28, eo28⟩ := Kd.R_slice HO_3.out
          subst eo28
          have p244 : 0 ≤ ((ji25) : Int) := od_
          have q244 : (ji25) < (x3_1.length : Int) := od_
          obtain ⟨ad244, e244, hx244_0⟩ := Kd.at_int (Kd.R_reads' HO_3.out).2.2 (ji25) p244 q244
          cases e244
          replace p244 := eq_true p244
          replace q244 := eq_true q244
          go_wp2
          go_roundg k2
          case measure => have := HK1.out; have := HK2.out; omega
          case rel => exact ⟨(rd x3_1 (ji25)), (wrap64 (x8_2 - 1)), (by first | rfl | (simp; done) | (simp only [← hji25] <;> (first | rfl | simp)) | (simp [*]; done)), fs_, H', ⟨by have := HK1.out; have := HK2.out; omega⟩, ⟨by (with_reducible repeat (first | apply Kd.R_alloc | apply Kd.R_drewN | apply Kd.R_drew)); exact HO_3.out⟩, ⟨by (with_reducible repeat (first | apply Kd.V_alloc | apply Kd.V_drewN | apply Kd.V_drew)); exact HO_6.out⟩, ⟨by (with_reducible repeat (first | refine kN_ ?_ _ | refine k1_ ?_ | refine kA_ ?_ _)); exact BK238.out⟩, ⟨by repeat (with_reducible first | exact HB.out | apply bA_ | apply bN_ | apply b1_ | refine bS_ ?_ GE238.out)⟩⟩
end Go.Proofs.YtfmlamheflbgdaaDoor.PAll
end
section
namespace Go.Proofs.YtfmlamheflbgdaaDoor.PAll
open Go.RowKit Go.Proofs.YtfmlamheflbgdaaDoorW.PrintWords Go.Proofs.YtfmlamheflbgdaaDoorW.PrintLast Go.Proofs.YtfmlamheflbgdaaDoorW.PrintMore
attribute [local go_sem] max2_int min2_int max_two min_two max_three min_three max_four min_four
set_option linter.unusedVariables false
set_option linter.unusedSimpArgs false
def laws_eqNode.f (a0_0 : Int) (a0_1 : Int) (a0_2 : Int) (a0_3 : Int) (a0_4 : Int) (a0_5 : ByteArray) (a0_6 : ByteArray) (a1_0 : Int) (a1_1 : Int) (a1_2 : Int) (a1_3 : Int) (a1_4 : Int) (a1_5 : ByteArray) (a1_6 : ByteArray) : Option (Bool) := if a0_0 = a1_0 then (if a0_1 = a1_1 then (if a0_2 = a1_2 then (if a0_3 = a1_3 then (if a0_4 = a1_4 then (if a0_5.toList = a1_5.toList then (if a0_6.toList = a1_6.toList then (some true) else (some false)) else (some false)) else (some false)) else (some false)) else (some false)) else (some false)) else (some false)
set_option maxHeartbeats 8000000 in
set_option maxRecDepth 100000 in
theorem laws_eqNode.calls (a0_0 : Int) (a0_1 : Int) (a0_2 : Int) (a0_3 : Int) (a0_4 : Int) (a0_5 : ByteArray) (a0_6 : ByteArray) (a1_0 : Int) (a1_1 : Int) (a1_2 : Int) (a1_3 : Int) (a1_4 : Int) (a1_5 : ByteArray) (a1_6 : ByteArray) (r : Bool) (w : World) (h : laws_eqNode.f a0_0 a0_1 a0_2 a0_3 a0_4 a0_5 a0_6 a1_0 a1_1 a1_2 a1_3 a1_4 a1_5 a1_6 = some r) :
    Calls Tryd.prog 67 #[.agg #[.int .i64 a0_0, .int .i64 a0_1, .int .i64 a0_2, .int .i64 a0_3, .int .i64 a0_4, .string a0_5, .string a0_6], .agg #[.int .i64 a1_0, .int .i64 a1_1, .int .i64 a1_2, .int .i64 a1_3, .int .i64 a1_4, .string a1_5, .string a1_6]] w fun e w' => e = .returned (.bool r) ∧ Below w.heap.size w w' := by
  have hu55 := Tryd.underlying55
  have HB := Ad_.mk (Below.refl w.heap.size w)
  have H := h
  unfold laws_eqNode.f at H
  clear h
  by_cases c3 : a0_0 = a1_0
  rotate_left
  ·
   rw [if_neg c3] at H
   have c3b0 : (a0_0 == a1_0) = false := beq_eq_false_iff_ne.mpr c3
   have c3b1 : (a0_0 != a1_0) = true := bne_iff_ne.mpr c3
   obtain rfl := Option.some.inj H
   go_enter Tryd.func67, Tryd.ntmps67
   go_wp2_with (first | ((with_reducible refine gD_ (N := 2) rfl ?_); refine bE_ ?hg (N := 2) ?hd (cs := #[.int .i64 a0_0, .int .i64 a0_1, .int .i64 a0_2, .int .i64 a0_3, .int .i64 a0_4, .string a0_5, .string a0_6]) (t := 55) ?hr ?_; (case hd => rfl); (case hg => rfl); (case hr => first | (go_simp; done) | (go_simp; rfl)); intro gb257 hg w45 hbox hb; have n0_ := Ad_.mk (bP_ (by repeat (with_reducible first | exact HB.out | apply bA_ | apply bN_ | apply b1_)) hb); have n1_ := Ad_.mk (hbox); have n2_ := Ad_.mk ((by rw [hg]; exact (bZ_ (by repeat (with_reducible first | exact HB.out | apply bA_ | apply bN_ | apply b1_))) : w.heap.size ≤ gb257)); have n3_ := Ad_.mk ((by rw [hg]; exact (bZ_ (by repeat (with_reducible first | exact HB.out | apply bA_ | apply bN_ | apply b1_))) : w.heap.size ≤ gb257)); clear HB; have HB := n0_; have BK257 := n1_; have GW257 := n2_; have GE257 := n3_; clear n0_ n1_ n2_ n3_; clear hb hbox hg) | ((with_reducible refine gD_ (N := 3) rfl ?_); refine bE_ ?hg (N := 3) ?hd (cs := #[.int .i64 a1_0, .int .i64 a1_1, .int .i64 a1_2, .int .i64 a1_3, .int .i64 a1_4, .string a1_5, .string a1_6]) (t := 55) ?hr ?_; (case hd => rfl); (case hg => rfl); (case hr => first | (go_simp; done) | (go_simp; rfl)); intro gb258 hg w46 hbox hb; have n0_ := Ad_.mk (blk_below (g := gb257) (o := .cells #[.int .i64 a0_0, .int .i64 a0_1, .int .i64 a0_2, .int .i64 a0_3, .int .i64 a0_4, .string a0_5, .string a0_6] 55 (0, 0)) (by (with_reducible repeat (first | refine kN_ ?_ _ | refine k1_ ?_ | refine kA_ ?_ _)); exact BK257.out) hb); have n1_ := Ad_.mk (bP_ (by repeat (with_reducible first | exact HB.out | apply bA_ | apply bN_ | apply b1_ | refine bS_ ?_ GE257.out)) hb); have n2_ := Ad_.mk (hbox); have n3_ := Ad_.mk ((by rw [hg]; exact (bZ_ (by repeat (with_reducible first | exact HB.out | apply bA_ | apply bN_ | apply b1_ | refine bS_ ?_ GE257.out))) : w.heap.size ≤ gb258)); have n4_ := Ad_.mk ((by rw [hg]; exact (bZ_ (by repeat (with_reducible first | exact HB.out | apply bA_ | apply bN_ | apply b1_ | refine bS_ ?_ GE257.out))) : w.heap.size ≤ gb258)); have n5_ := Ad_.mk ((by rw [hg]; exact Nat.ne_of_lt (blk_lt (g := gb257) (o := .cells #[.int .i64 a0_0, .int .i64 a0_1, .int .i64 a0_2, .int .i64 a0_3, .int .i64 a0_4, .string a0_5, .string a0_6] 55 (0, 0)) (by (with_reducible repeat (first | refine kN_ ?_ _ | refine k1_ ?_ | refine kA_ ?_ _)); exact BK257.out)) : gb257 ≠ gb258)); have n6_ := Ad_.mk ((by rw [hg]; exact Nat.ne_of_gt (blk_lt (g := gb257) (o := .cells #[.int .i64 a0_0, .int .i64 a0_1, .int .i64 a0_2, .int .i64 a0_3, .int .i64 a0_4, .string a0_5, .string a0_6] 55 (0, 0)) (by (with_reducible repeat (first | refine kN_ ?_ _ | refine k1_ ?_ | refine kA_ ?_ _)); exact BK257.out)) : gb258 ≠ gb257)); clear BK257; clear HB; have BK257 := n0_; have HB := n1_; have BK258 := n2_; have GW258 := n3_; have GE258 := n4_; have NB257_258 := n5_; have NB258_257 := n6_; clear n0_ n1_ n2_ n3_ n4_ n5_ n6_; clear hb hbox hg; have hnb47 := NB257_258.out; have hnc47 := NB258_257.out; obtain ⟨hcz48_0, hcz48_1, hcz48_2, hcz48_3, hcz48_4, hcz48_5, hcz48_6⟩ := cells7_ BK257.out; obtain ⟨hfz48_0, hfz48_1, hfz48_2, hfz48_3, hfz48_4, hfz48_5, hfz48_6⟩ := froz7_ BK257.out; obtain ⟨hcz49_0, hcz49_1, hcz49_2, hcz49_3, hcz49_4, hcz49_5, hcz49_6⟩ := cells7_ BK258.out; obtain ⟨hfz49_0, hfz49_1, hfz49_2, hfz49_3, hfz49_4, hfz49_5, hfz49_6⟩ := froz7_ BK258.out))
   go_ret
   exact ⟨by first | rfl | (simp [errW_none, errW_some] <;> rfl) | (simp [*, errW_none, errW_some] <;> rfl), by repeat (with_reducible first | exact HB.out | apply bA_ | apply bN_ | apply b1_ | refine bS_ ?_ GE257.out | refine bS_ ?_ GE258.out)⟩
  rw [if_pos c3] at H
  have c3b0 : (a0_0 == a1_0) = true := beq_iff_eq.mpr c3
  have c3b1 : (a0_0 != a1_0) = false := bne_eq_false_iff_eq.mpr c3
  clear c3
  by_cases c4 : a0_1 = a1_1
  rotate_left
  ·
   rw [if_neg c4] at H
   have c4b0 : (a0_1 == a1_1) = false := beq_eq_false_iff_ne.mpr c4
   have c4b1 : (a0_1 != a1_1) = true := bne_iff_ne.mpr c4
   obtain rfl := Option.some.inj H
   go_enter Tryd.func67, Tryd.ntmps67
   go_wp2_with (first | ((with_reducible refine gD_ (N := 2) rfl ?_); refine bE_ ?hg (N := 2) ?hd (cs := #[.int .i64 a0_0, .int .i64 a0_1, .int .i64 a0_2, .int .i64 a0_3, .int .i64 a0_4, .string a0_5, .string a0_6]) (t := 55) ?hr ?_; (case hd => rfl); (case hg => rfl); (case hr => first | (go_simp; done) | (go_simp; rfl)); intro gb257 hg w40 hbox hb; have n0_ := Ad_.mk (bP_ (by repeat (with_reducible first | exact HB.out | apply bA_ | apply bN_ | apply b1_)) hb); have n1_ := Ad_.mk (hbox); have n2_ := Ad_.mk ((by rw [hg]; exact (bZ_ (by repeat (with_reducible first | exact HB.out | apply bA_ | apply bN_ | apply b1_))) : w.heap.size ≤ gb257)); have n3_ := Ad_.mk ((by rw [hg]; exact (bZ_ (by repeat (with_reducible first | exact HB.out | apply bA_ | apply bN_ | apply b1_))) : w.heap.size ≤ gb257)); clear HB; have HB := n0_; have BK257 := n1_; have GW257 := n2_; have GE257 := n3_; clear n0_ n1_ n2_ n3_; clear hb hbox hg) | ((with_reducible refine gD_ (N := 3) rfl ?_); refine bE_ ?hg (N := 3) ?hd (cs := #[.int .i64 a1_0, .int .i64 a1_1, .int .i64 a1_2, .int .i64 a1_3, .int .i64 a1_4, .string a1_5, .string a1_6]) (t := 55) ?hr ?_; (case hd => rfl); (case hg => rfl); (case hr => first | (go_simp; done) | (go_simp; rfl)); intro gb258 hg w41 hbox hb; have n0_ := Ad_.mk (blk_below (g := gb257) (o := .cells #[.int .i64 a0_0, .int .i64 a0_1, .int .i64 a0_2, .int .i64 a0_3, .int .i64 a0_4, .string a0_5, .string a0_6] 55 (0, 0)) (by (with_reducible repeat (first | refine kN_ ?_ _ | refine k1_ ?_ | refine kA_ ?_ _)); exact BK257.out) hb); have n1_ := Ad_.mk (bP_ (by repeat (with_reducible first | exact HB.out | apply bA_ | apply bN_ | apply b1_ | refine bS_ ?_ GE257.out)) hb); have n2_ := Ad_.mk (hbox); have n3_ := Ad_.mk ((by rw [hg]; exact (bZ_ (by repeat (with_reducible first | exact HB.out | apply bA_ | apply bN_ | apply b1_ | refine bS_ ?_ GE257.out))) : w.heap.size ≤ gb258)); have n4_ := Ad_.mk ((by rw [hg]; exact (bZ_ (by repeat (with_reducible first | exact HB.out | apply bA_ | apply bN_ | apply b1_ | refine bS_ ?_ GE257.out))) : w.heap.size ≤ gb258)); have n5_ := Ad_.mk ((by rw [hg]; exact Nat.ne_of_lt (blk_lt (g := gb257) (o := .cells #[.int .i64 a0_0, .int .i64 a0_1, .int .i64 a0_2, .int .i64 a0_3, .int .i64 a0_4, .string a0_5, .string a0_6] 55 (0, 0)) (by (with_reducible repeat (first | refine kN_ ?_ _ | refine k1_ ?_ | refine kA_ ?_ _)); exact BK257.out)) : gb257 ≠ gb258)); have n6_ := Ad_.mk ((by rw [hg]; exact Nat.ne_of_gt (blk_lt (g := gb257) (o := .cells #[.int .i64 a0_0, .int .i64 a0_1, .int .i64 a0_2, .int .i64 a0_3, .int .i64 a0_4, .string a0_5, .string a0_6] 55 (0, 0)) (by (with_reducible repeat (first | refine kN_ ?_ _ | refine k1_ ?_ | refine kA_ ?_ _)); exact BK257.out)) : gb258 ≠ gb257)); clear BK257; clear HB; have BK257 := n0_; have HB := n1_; have BK258 := n2_; have GW258 := n3_; have GE258 := n4_; have NB257_258 := n5_; have NB258_257 := n6_; clear n0_ n1_ n2_ n3_ n4_ n5_ n6_; clear hb hbox hg; have hnb42 := NB257_258.out; have hnc42 := NB258_257.out; obtain ⟨hcz43_0, hcz43_1, hcz43_2, hcz43_3, hcz43_4, hcz43_5, hcz43_6⟩ := cells7_ BK257.out; obtain ⟨hfz43_0, hfz43_1, hfz43_2, hfz43_3, hfz43_4, hfz43_5, hfz43_6⟩ := froz7_ BK257.out; obtain ⟨hcz44_0, hcz44_1, hcz44_2, hcz44_3, hcz44_4, hcz44_5, hcz44_6⟩ := cells7_ BK258.out; obtain ⟨hfz44_0, hfz44_1, hfz44_2, hfz44_3, hfz44_4, hfz44_5, hfz44_6⟩ := froz7_ BK258.out))
   go_ret
   exact ⟨by first | rfl | (simp [errW_none, errW_some] <;> rfl) | (simp [*, errW_none, errW_some] <;> rfl), by repeat (with_reducible first | exact HB.out | apply bA_ | apply bN_ | apply b1_ | refine bS_ ?_ GE257.out | refine bS_ ?_ GE258.out)⟩
  rw [if_pos c4] at H
  have c4b0 : (a0_1 == a1_1) = true := beq_iff_eq.mpr c4
  have c4b1 : (a0_1 != a1_1) = false := bne_eq_false_iff_eq.mpr c4
  clear c4
  by_cases c5 : a0_2 = a1_2
  rotate_left
  ·
   rw [if_neg c5] at H
   have c5b0 : (a0_2 == a1_2) = false := beq_eq_false_iff_ne.mpr c5
   have c5b1 : (a0_2 != a1_2) = true := bne_iff_ne.mpr c5
   obtain rfl := Option.some.inj H
   go_enter Tryd.func67, Tryd.ntmps67
   go_wp2_with (first | ((with_reducible refine gD_ (N := 2) rfl ?_); refine bE_ ?hg (N := 2) ?hd (cs := #[.int .i64 a0_0, .int .i64 a0_1, .int .i64 a0_2, .int .i64 a0_3, .int .i64 a0_4, .string a0_5, .string a0_6]) (t := 55) ?hr ?_; (case hd => rfl); (case hg => rfl); (case hr => first | (go_simp; done) | (go_simp; rfl)); intro gb257 hg w35 hbox hb; have n0_ := Ad_.mk (bP_ (by repeat (with_reducible first | exact HB.out | apply bA_ | apply bN_ | apply b1_)) hb); have n1_ := Ad_.mk (hbox); have n2_ := Ad_.mk ((by rw [hg]; exact (bZ_ (by repeat (with_reducible first | exact HB.out | apply bA_ | apply bN_ | apply b1_))) : w.heap.size ≤ gb257)); have n3_ := Ad_.mk ((by rw [hg]; exact (bZ_ (by repeat (with_reducible first | exact HB.out | apply bA_ | apply bN_ | apply b1_))) : w.heap.size ≤ gb257)); clear HB; have HB := n0_; have BK257 := n1_; have GW257 := n2_; have GE257 := n3_; clear n0_ n1_ n2_ n3_; clear hb hbox hg) | ((with_reducible refine gD_ (N := 3) rfl ?_); refine bE_ ?hg (N := 3) ?hd (cs := #[.int .i64 a1_0, .int .i64 a1_1, .int .i64 a1_2, .int .i64 a1_3, .int .i64 a1_4, .string a1_5, .string a1_6]) (t := 55) ?hr ?_; (case hd => rfl); (case hg => rfl); (case hr => first | (go_simp; done) | (go_simp; rfl)); intro gb258 hg w36 hbox hb; have n0_ := Ad_.mk (blk_below (g := gb257) (o := .cells #[.int .i64 a0_0, .int .i64 a0_1, .int .i64 a0_2, .int .i64 a0_3, .int .i64 a0_4, .string a0_5, .string a0_6] 55 (0, 0)) (by (with_reducible repeat (first | refine kN_ ?_ _ | refine k1_ ?_ | refine kA_ ?_ _)); exact BK257.out) hb); have n1_ := Ad_.mk (bP_ (by repeat (with_reducible first | exact HB.out | apply bA_ | apply bN_ | apply b1_ | refine bS_ ?_ GE257.out)) hb); have n2_ := Ad_.mk (hbox); have n3_ := Ad_.mk ((by rw [hg]; exact (bZ_ (by repeat (with_reducible first | exact HB.out | apply bA_ | apply bN_ | apply b1_ | refine bS_ ?_ GE257.out))) : w.heap.size ≤ gb258)); have n4_ := Ad_.mk ((by rw [hg]; exact (bZ_ (by repeat (with_reducible first | exact HB.out | apply bA_ | apply bN_ | apply b1_ | refine bS_ ?_ GE257.out))) : w.heap.size ≤ gb258)); have n5_ := Ad_.mk ((by rw [hg]; exact Nat.ne_of_lt (blk_lt (g := gb257) (o := .cells #[.int .i64 a0_0, .int .i64 a0_1, .int .i64 a0_2, .int .i64 a0_3, .int .i64 a0_4, .string a0_5, .string a0_6] 55 (0, 0)) (by (with_reducible repeat (first | refine kN_ ?_ _ | refine k1_ ?_ | refine kA_ ?_ _)); exact BK257.out)) : gb257 ≠ gb258)); have n6_ := Ad_.mk ((by rw [hg]; exact Nat.ne_of_gt (blk_lt (g := gb257) (o := .cells #[.int .i64 a0_0, .int .i64 a0_1, .int .i64 a0_2, .int .i64 a0_3, .int .i64 a0_4, .string a0_5, .string a0_6] 55 (0, 0)) (by (with_reducible repeat (first | refine kN_ ?_ _ | refine k1_ ?_ | refine kA_ ?_ _)); exact BK257.out)) : gb258 ≠ gb257)); clear BK257; clear HB; have BK257 := n0_; have HB := n1_; have BK258 := n2_; have GW258 := n3_; have GE258 := n4_; have NB257_258 := n5_; have NB258_257 := n6_; clear n0_ n1_ n2_ n3_ n4_ n5_ n6_; clear hb hbox hg; have hnb37 := NB257_258.out; have hnc37 := NB258_257.out; obtain ⟨hcz38_0, hcz38_1, hcz38_2, hcz38_3, hcz38_4, hcz38_5, hcz38_6⟩ := cells7_ BK257.out; obtain ⟨hfz38_0, hfz38_1, hfz38_2, hfz38_3, hfz38_4, hfz38_5, hfz38_6⟩ := froz7_ BK257.out; obtain ⟨hcz39_0, hcz39_1, hcz39_2, hcz39_3, hcz39_4, hcz39_5, hcz39_6⟩ := cells7_ BK258.out; obtain ⟨hfz39_0, hfz39_1, hfz39_2, hfz39_3, hfz39_4, hfz39_5, hfz39_6⟩ := froz7_ BK258.out))
   go_ret
   exact ⟨by first | rfl | (simp [errW_none, errW_some] <;> rfl) | (simp [*, errW_none, errW_some] <;> rfl), by repeat (with_reducible first | exact HB.out | apply bA_ | apply bN_ | apply b1_ | refine bS_ ?_ GE257.out | refine bS_ ?_ GE258.out)⟩
  rw [if_pos c5] at H
  have c5b0 : (a0_2 == a1_2) = true := beq_iff_eq.mpr c5
  have c5b1 : (a0_2 != a1_2) = false := bne_eq_false_iff_eq.mpr c5
  clear c5
  by_cases c6 : a0_3 = a1_3
  rotate_left
  ·
   rw [if_neg c6] at H
   have c6b0 : (a0_3 == a1_3) = false := beq_eq_false_iff_ne.mpr c6
   have c6b1 : (a0_3 != a1_3) = true := bne_iff_ne.mpr c6
   obtain rfl := Option.some.inj H
   go_enter Tryd.func67, Tryd.ntmps67
   go_wp2_with (first | ((with_reducible refine gD_ (N := 2) rfl ?_); refine bE_ ?hg (N := 2) ?hd (cs := #[.int .i64 a0_0, .int .i64 a0_1, .int .i64 a0_2, .int .i64 a0_3, .int .i64 a0_4, .string a0_5, .string a0_6]) (t := 55) ?hr ?_; (case hd => rfl); (case hg => rfl); (case hr => first | (go_simp; done) | (go_simp; rfl)); intro gb257 hg w30 hbox hb; have n0_ := Ad_.mk (bP_ (by repeat (with_reducible first | exact HB.out | apply bA_ | apply bN_ | apply b1_)) hb); have n1_ := Ad_.mk (hbox); have n2_ := Ad_.mk ((by rw [hg]; exact (bZ_ (by repeat (with_reducible first | exact HB.out | apply bA_ | apply bN_ | apply b1_))) : w.heap.size ≤ gb257)); have n3_ := Ad_.mk ((by rw [hg]; exact (bZ_ (by repeat (with_reducible first | exact HB.out | apply bA_ | apply bN_ | apply b1_))) : w.heap.size ≤ gb257)); clear HB; have HB := n0_; have BK257 := n1_; have GW257 := n2_; have GE257 := n3_; clear n0_ n1_ n2_ n3_; clear hb hbox hg) | ((with_reducible refine gD_ (N := 3) rfl ?_); refine bE_ ?hg (N := 3) ?hd (cs := #[.int .i64 a1_0, .int .i64 a1_1, .int .i64 a1_2, .int .i64 a1_3, .int .i64 a1_4, .string a1_5, .string a1_6]) (t := 55) ?hr ?_; (case hd => rfl); (case hg => rfl); (case hr => first | (go_simp; done) | (go_simp; rfl)); intro gb258 hg w31 hbox hb; have n0_ := Ad_.mk (blk_below (g := gb257) (o := .cells #[.int .i64 a0_0, .int .i64 a0_1, .int .i64 a0_2, .int .i64 a0_3, .int .i64 a0_4, .string a0_5, .string a0_6] 55 (0, 0)) (by (with_reducible repeat (first | refine kN_ ?_ _ | refine k1_ ?_ | refine kA_ ?_ _)); exact BK257.out) hb); have n1_ := Ad_.mk (bP_ (by repeat (with_reducible first | exact HB.out | apply bA_ | apply bN_ | apply b1_ | refine bS_ ?_ GE257.out)) hb); have n2_ := Ad_.mk (hbox); have n3_ := Ad_.mk ((by rw [hg]; exact (bZ_ (by repeat (with_reducible first | exact HB.out | apply bA_ | apply bN_ | apply b1_ | refine bS_ ?_ GE257.out))) : w.heap.size ≤ gb258)); have n4_ := Ad_.mk ((by rw [hg]; exact (bZ_ (by repeat (with_reducible first | exact HB.out | apply bA_ | apply bN_ | apply b1_ | refine bS_ ?_ GE257.out))) : w.heap.size ≤ gb258)); have n5_ := Ad_.mk ((by rw [hg]; exact Nat.ne_of_lt (blk_lt (g := gb257) (o := .cells #[.int .i64 a0_0, .int .i64 a0_1, .int .i64 a0_2, .int .i64 a0_3, .int .i64 a0_4, .string a0_5, .string a0_6] 55 (0, 0)) (by (with_reducible repeat (first | refine kN_ ?_ _ | refine k1_ ?_ | refine kA_ ?_ _)); exact BK257.out)) : gb257 ≠ gb258)); have n6_ := Ad_.mk ((by rw [hg]; exact Nat.ne_of_gt (blk_lt (g := gb257) (o := .cells #[.int .i64 a0_0, .int .i64 a0_1, .int .i64 a0_2, .int .i64 a0_3, .int .i64 a0_4, .string a0_5, .string a0_6] 55 (0, 0)) (by (with_reducible repeat (first | refine kN_ ?_ _ | refine k1_ ?_ | refine kA_ ?_ _)); exact BK257.out)) : gb258 ≠ gb257)); clear BK257; clear HB; have BK257 := n0_; have HB := n1_; have BK258 := n2_; have GW258 := n3_; have GE258 := n4_; have NB257_258 := n5_; have NB258_257 := n6_; clear n0_ n1_ n2_ n3_ n4_ n5_ n6_; clear hb hbox hg; have hnb32 := NB257_258.out; have hnc32 := NB258_257.out; obtain ⟨hcz33_0, hcz33_1, hcz33_2, hcz33_3, hcz33_4, hcz33_5, hcz33_6⟩ := cells7_ BK257.out; obtain ⟨hfz33_0, hfz33_1, hfz33_2, hfz33_3, hfz33_4, hfz33_5, hfz33_6⟩ := froz7_ BK257.out; obtain ⟨hcz34_0, hcz34_1, hcz34_2, hcz34_3, hcz34_4, hcz34_5, hcz34_6⟩ := cells7_ BK258.out; obtain ⟨hfz34_0, hfz34_1, hfz34_2, hfz34_3, hfz34_4, hfz34_5, hfz34_6⟩ := froz7_ BK258.out))
   go_ret
   exact ⟨by first | rfl | (simp [errW_none, errW_some] <;> rfl) | (simp [*, errW_none, errW_some] <;> rfl), by repeat (with_reducible first | exact HB.out | apply bA_ | apply bN_ | apply b1_ | refine bS_ ?_ GE257.out | refine bS_ ?_ GE258.out)⟩
  rw [if_pos c6] at H
  have c6b0 : (a0_3 == a1_3) = true := beq_iff_eq.mpr c6
  have c6b1 : (a0_3 != a1_3) = false := bne_eq_false_iff_eq.mpr c6
  clear c6
  by_cases c7 : a0_4 = a1_4
  rotate_left
  ·
   rw [if_neg c7] at H
   have c7b0 : (a0_4 == a1_4) = false := beq_eq_false_iff_ne.mpr c7
   have c7b1 : (a0_4 != a1_4) = true := bne_iff_ne.mpr c7
   obtain rfl := Option.some.inj H
   go_enter Tryd.func67, Tryd.ntmps67
   go_wp2_with (first | ((with_reducible refine gD_ (N := 2) rfl ?_); refine bE_ ?hg (N := 2) ?hd (cs := #[.int .i64 a0_0, .int .i64 a0_1, .int .i64 a0_2, .int .i64 a0_3, .int .i64 a0_4, .string a0_5, .string a0_6]) (t := 55) ?hr ?_; (case hd => rfl); (case hg => rfl); (case hr => first | (go_simp; done) | (go_simp; rfl)); intro gb257 hg w25 hbox hb; have n0_ := Ad_.mk (bP_ (by repeat (with_reducible first | exact HB.out | apply bA_ | apply bN_ | apply b1_)) hb); have n1_ := Ad_.mk (hbox); have n2_ := Ad_.mk ((by rw [hg]; exact (bZ_ (by repeat (with_reducible first | exact HB.out | apply bA_ | apply bN_ | apply b1_))) : w.heap.size ≤ gb257)); have n3_ := Ad_.mk ((by rw [hg]; exact (bZ_ (by repeat (with_reducible first | exact HB.out | apply bA_ | apply bN_ | apply b1_))) : w.heap.size ≤ gb257)); clear HB; have HB := n0_; have BK257 := n1_; have GW257 := n2_; have GE257 := n3_; clear n0_ n1_ n2_ n3_; clear hb hbox hg) | ((with_reducible refine gD_ (N := 3) rfl ?_); refine bE_ ?hg (N := 3) ?hd (cs := #[.int .i64 a1_0, .int .i64 a1_1, .int .i64 a1_2, .int .i64 a1_3, .int .i64 a1_4, .string a1_5, .string a1_6]) (t := 55) ?hr ?_; (case hd => rfl); (case hg => rfl); (case hr => first | (go_simp; done) | (go_simp; rfl)); intro gb258 hg w26 hbox hb; have n0_ := Ad_.mk (blk_below (g := gb257) (o := .cells #[.int .i64 a0_0, .int .i64 a0_1, .int .i64 a0_2, .int .i64 a0_3, .int .i64 a0_4, .string a0_5, .string a0_6] 55 (0, 0)) (by (with_reducible repeat (first | refine kN_ ?_ _ | refine k1_ ?_ | refine kA_ ?_ _)); exact BK257.out) hb); have n1_ := Ad_.mk (bP_ (by repeat (with_reducible first | exact HB.out | apply bA_ | apply bN_ | apply b1_ | refine bS_ ?_ GE257.out)) hb); have n2_ := Ad_.mk (hbox); have n3_ := Ad_.mk ((by rw [hg]; exact (bZ_ (by repeat (with_reducible first | exact HB.out | apply bA_ | apply bN_ | apply b1_ | refine bS_ ?_ GE257.out))) : w.heap.size ≤ gb258)); have n4_ := Ad_.mk ((by rw [hg]; exact (bZ_ (by repeat (with_reducible first | exact HB.out | apply bA_ | apply bN_ | apply b1_ | refine bS_ ?_ GE257.out))) : w.heap.size ≤ gb258)); have n5_ := Ad_.mk ((by rw [hg]; exact Nat.ne_of_lt (blk_lt (g := gb257) (o := .cells #[.int .i64 a0_0, .int .i64 a0_1, .int .i64 a0_2, .int .i64 a0_3, .int .i64 a0_4, .string a0_5, .string a0_6] 55 (0, 0)) (by (with_reducible repeat (first | refine kN_ ?_ _ | refine k1_ ?_ | refine kA_ ?_ _)); exact BK257.out)) : gb257 ≠ gb258)); have n6_ := Ad_.mk ((by rw [hg]; exact Nat.ne_of_gt (blk_lt (g := gb257) (o := .cells #[.int .i64 a0_0, .int .i64 a0_1, .int .i64 a0_2, .int .i64 a0_3, .int .i64 a0_4, .string a0_5, .string a0_6] 55 (0, 0)) (by (with_reducible repeat (first | refine kN_ ?_ _ | refine k1_ ?_ | refine kA_ ?_ _)); exact BK257.out)) : gb258 ≠ gb257)); clear BK257; clear HB; have BK257 := n0_; have HB := n1_; have BK258 := n2_; have GW258 := n3_; have GE258 := n4_; have NB257_258 := n5_; have NB258_257 := n6_; clear n0_ n1_ n2_ n3_ n4_ n5_ n6_; clear hb hbox hg; have hnb27 := NB257_258.out; have hnc27 := NB258_257.out; obtain ⟨hcz28_0, hcz28_1, hcz28_2, hcz28_3, hcz28_4, hcz28_5, hcz28_6⟩ := cells7_ BK257.out; obtain ⟨hfz28_0, hfz28_1, hfz28_2, hfz28_3, hfz28_4, hfz28_5, hfz28_6⟩ := froz7_ BK257.out; obtain ⟨hcz29_0, hcz29_1, hcz29_2, hcz29_3, hcz29_4, hcz29_5, hcz29_6⟩ := cells7_ BK258.out; obtain ⟨hfz29_0, hfz29_1, hfz29_2, hfz29_3, hfz29_4, hfz29_5, hfz29_6⟩ := froz7_ BK258.out))
   go_ret
   exact ⟨by first | rfl | (simp [errW_none, errW_some] <;> rfl) | (simp [*, errW_none, errW_some] <;> rfl), by repeat (with_reducible first | exact HB.out | apply bA_ | apply bN_ | apply b1_ | refine bS_ ?_ GE257.out | refine bS_ ?_ GE258.out)⟩
  rw [if_pos c7] at H
  have c7b0 : (a0_4 == a1_4) = true := beq_iff_eq.mpr c7
  have c7b1 : (a0_4 != a1_4) = false := bne_eq_false_iff_eq.mpr c7
  clear c7
  by_cases c8 : a0_5.toList = a1_5.toList
  rotate_left
  ·
   rw [if_neg c8] at H
   have c8b0 : (a0_5.toList == a1_5.toList) = false := beq_eq_false_iff_ne.mpr c8
   have c8b1 : (a0_5.toList != a1_5.toList) = true := bne_iff_ne.mpr c8
   obtain rfl := Option.some.inj H
   go_enter Tryd.func67, Tryd.ntmps67
   go_wp2_with (first | ((with_reducible refine gD_ (N := 2) rfl ?_); refine bE_ ?hg (N := 2) ?hd (cs := #[.int .i64 a0_0, .int .i64 a0_1, .int .i64 a0_2, .int .i64 a0_3, .int .i64 a0_4, .string a0_5, .string a0_6]) (t := 55) ?hr ?_; (case hd => rfl); (case hg => rfl); (case hr => first | (go_simp; done) | (go_simp; rfl)); intro gb257 hg w20 hbox hb; have n0_ := Ad_.mk (bP_ (by repeat (with_reducible first | exact HB.out | apply bA_ | apply bN_ | apply b1_)) hb); have n1_ := Ad_.mk (hbox); have n2_ := Ad_.mk ((by rw [hg]; exact (bZ_ (by repeat (with_reducible first | exact HB.out | apply bA_ | apply bN_ | apply b1_))) : w.heap.size ≤ gb257)); have n3_ := Ad_.mk ((by rw [hg]; exact (bZ_ (by repeat (with_reducible first | exact HB.out | apply bA_ | apply bN_ | apply b1_))) : w.heap.size ≤ gb257)); clear HB; have HB := n0_; have BK257 := n1_; have GW257 := n2_; have GE257 := n3_; clear n0_ n1_ n2_ n3_; clear hb hbox hg) | ((with_reducible refine gD_ (N := 3) rfl ?_); refine bE_ ?hg (N := 3) ?hd (cs := #[.int .i64 a1_0, .int .i64 a1_1, .int .i64 a1_2, .int .i64 a1_3, .int .i64 a1_4, .string a1_5, .string a1_6]) (t := 55) ?hr ?_; (case hd => rfl); (case hg => rfl); (case hr => first | (go_simp; done) | (go_simp; rfl)); intro gb258 hg w21 hbox hb; have n0_ := Ad_.mk (blk_below (g := gb257) (o := .cells #[.int .i64 a0_0, .int .i64 a0_1, .int .i64 a0_2, .int .i64 a0_3, .int .i64 a0_4, .string a0_5, .string a0_6] 55 (0, 0)) (by (with_reducible repeat (first | refine kN_ ?_ _ | refine k1_ ?_ | refine kA_ ?_ _)); exact BK257.out) hb); have n1_ := Ad_.mk (bP_ (by repeat (with_reducible first | exact HB.out | apply bA_ | apply bN_ | apply b1_ | refine bS_ ?_ GE257.out)) hb); have n2_ := Ad_.mk (hbox); have n3_ := Ad_.mk ((by rw [hg]; exact (bZ_ (by repeat (with_reducible first | exact HB.out | apply bA_ | apply bN_ | apply b1_ | refine bS_ ?_ GE257.out))) : w.heap.size ≤ gb258)); have n4_ := Ad_.mk ((by rw [hg]; exact (bZ_ (by repeat (with_reducible first | exact HB.out | apply bA_ | apply bN_ | apply b1_ | refine bS_ ?_ GE257.out))) : w.heap.size ≤ gb258)); have n5_ := Ad_.mk ((by rw [hg]; exact Nat.ne_of_lt (blk_lt (g := gb257) (o := .cells #[.int .i64 a0_0, .int .i64 a0_1, .int .i64 a0_2, .int .i64 a0_3, .int .i64 a0_4, .string a0_5, .string a0_6] 55 (0, 0)) (by (with_reducible repeat (first | refine kN_ ?_ _ | refine k1_ ?_ | refine kA_ ?_ _)); exact BK257.out)) : gb257 ≠ gb258)); have n6_ := Ad_.mk ((by rw [hg]; exact Nat.ne_of_gt (blk_lt (g := gb257) (o := .cells #[.int .i64 a0_0, .int .i64 a0_1, .int .i64 a0_2, .int .i64 a0_3, .int .i64 a0_4, .string a0_5, .string a0_6] 55 (0, 0)) (by (with_reducible repeat (first | refine kN_ ?_ _ | refine k1_ ?_ | refine kA_ ?_ _)); exact BK257.out)) : gb258 ≠ gb257)); clear BK257; clear HB; have BK257 := n0_; have HB := n1_; have BK258 := n2_; have GW258 := n3_; have GE258 := n4_; have NB257_258 := n5_; have NB258_257 := n6_; clear n0_ n1_ n2_ n3_ n4_ n5_ n6_; clear hb hbox hg; have hnb22 := NB257_258.out; have hnc22 := NB258_257.out; obtain ⟨hcz23_0, hcz23_1, hcz23_2, hcz23_3, hcz23_4, hcz23_5, hcz23_6⟩ := cells7_ BK257.out; obtain ⟨hfz23_0, hfz23_1, hfz23_2, hfz23_3, hfz23_4, hfz23_5, hfz23_6⟩ := froz7_ BK257.out; obtain ⟨hcz24_0, hcz24_1, hcz24_2, hcz24_3, hcz24_4, hcz24_5, hcz24_6⟩ := cells7_ BK258.out; obtain ⟨hfz24_0, hfz24_1, hfz24_2, hfz24_3, hfz24_4, hfz24_5, hfz24_6⟩ := froz7_ BK258.out))
   go_ret
   exact ⟨by first | rfl | (simp [errW_none, errW_some] <;> rfl) | (simp [*, errW_none, errW_some] <;> rfl), by repeat (with_reducible first | exact HB.out | apply bA_ | apply bN_ | apply b1_ | refine bS_ ?_ GE257.out | refine bS_ ?_ GE258.out)⟩
  rw [if_pos c8] at H
  have c8b0 : (a0_5.toList == a1_5.toList) = true := beq_iff_eq.mpr c8
  have c8b1 : (a0_5.toList != a1_5.toList) = false := bne_eq_false_iff_eq.mpr c8
  clear c8
  by_cases c9 : a0_6.toList = a1_6.toList
  rotate_left
  ·
   rw [if_neg c9] at H
   have c9b0 : (a0_6.toList == a1_6.toList) = false := beq_eq_false_iff_ne.mpr c9
   have c9b1 : (a0_6.toList != a1_6.toList) = true := bne_iff_ne.mpr c9
   obtain rfl := Option.some.inj H
   go_enter Tryd.func67, Tryd.ntmps67
   go_wp2_with (first | ((with_reducible refine gD_ (N := 2) rfl ?_); refine bE_ ?hg (N := 2) ?hd (cs := #[.int .i64 a0_0, .int .i64 a0_1, .int .i64 a0_2, .int .i64 a0_3, .int .i64 a0_4, .string a0_5, .string a0_6]) (t := 55) ?hr ?_; (case hd => rfl); (case hg => rfl); (case hr => first | (go_simp; done) | (go_simp; rfl)); intro gb257 hg w15 hbox hb; have n0_ := Ad_.mk (bP_ (by repeat (with_reducible first | exact HB.out | apply bA_ | apply bN_ | apply b1_)) hb); have n1_ := Ad_.mk (hbox); have n2_ := Ad_.mk ((by rw [hg]; exact (bZ_ (by repeat (with_reducible first | exact HB.out | apply bA_ | apply bN_ | apply b1_))) : w.heap.size ≤ gb257)); have n3_ := Ad_.mk ((by rw [hg]; exact (bZ_ (by repeat (with_reducible first | exact HB.out | apply bA_ | apply bN_ | apply b1_))) : w.heap.size ≤ gb257)); clear HB; have HB := n0_; have BK257 := n1_; have GW257 := n2_; have GE257 := n3_; clear n0_ n1_ n2_ n3_; clear hb hbox hg) | ((with_reducible refine gD_ (N := 3) rfl ?_); refine bE_ ?hg (N := 3) ?hd (cs := #[.int .i64 a1_0, .int .i64 a1_1, .int .i64 a1_2, .int .i64 a1_3, .int .i64 a1_4, .string a1_5, .string a1_6]) (t := 55) ?hr ?_; (case hd => rfl); (case hg => rfl); (case hr => first | (go_simp; done) | (go_simp; rfl)); intro gb258 hg w16 hbox hb; have n0_ := Ad_.mk (blk_below (g := gb257) (o := .cells #[.int .i64 a0_0, .int .i64 a0_1, .int .i64 a0_2, .int .i64 a0_3, .int .i64 a0_4, .string a0_5, .string a0_6] 55 (0, 0)) (by (with_reducible repeat (first | refine kN_ ?_ _ | refine k1_ ?_ | refine kA_ ?_ _)); exact BK257.out) hb); have n1_ := Ad_.mk (bP_ (by repeat (with_reducible first | exact HB.out | apply bA_ | apply bN_ | apply b1_ | refine bS_ ?_ GE257.out)) hb); have n2_ := Ad_.mk (hbox); have n3_ := Ad_.mk ((by rw [hg]; exact (bZ_ (by repeat (with_reducible first | exact HB.out | apply bA_ | apply bN_ | apply b1_ | refine bS_ ?_ GE257.out))) : w.heap.size ≤ gb258)); have n4_ := Ad_.mk ((by rw [hg]; exact (bZ_ (by repeat (with_reducible first | exact HB.out | apply bA_ | apply bN_ | apply b1_ | refine bS_ ?_ GE257.out))) : w.heap.size ≤ gb258)); have n5_ := Ad_.mk ((by rw [hg]; exact Nat.ne_of_lt (blk_lt (g := gb257) (o := .cells #[.int .i64 a0_0, .int .i64 a0_1, .int .i64 a0_2, .int .i64 a0_3, .int .i64 a0_4, .string a0_5, .string a0_6] 55 (0, 0)) (by (with_reducible repeat (first | refine kN_ ?_ _ | refine k1_ ?_ | refine kA_ ?_ _)); exact BK257.out)) : gb257 ≠ gb258)); have n6_ := Ad_.mk ((by rw [hg]; exact Nat.ne_of_gt (blk_lt (g := gb257) (o := .cells #[.int .i64 a0_0, .int .i64 a0_1, .int .i64 a0_2, .int .i64 a0_3, .int .i64 a0_4, .string a0_5, .string a0_6] 55 (0, 0)) (by (with_reducible repeat (first | refine kN_ ?_ _ | refine k1_ ?_ | refine kA_ ?_ _)); exact BK257.out)) : gb258 ≠ gb257)); clear BK257; clear HB; have BK257 := n0_; have HB := n1_; have BK258 := n2_; have GW258 := n3_; have GE258 := n4_; have NB257_258 := n5_; have NB258_257 := n6_; clear n0_ n1_ n2_ n3_ n4_ n5_ n6_; clear hb hbox hg; have hnb17 := NB257_258.out; have hnc17 := NB258_257.out; obtain ⟨hcz18_0, hcz18_1, hcz18_2, hcz18_3, hcz18_4, hcz18_5, hcz18_6⟩ := cells7_ BK257.out; obtain ⟨hfz18_0, hfz18_1, hfz18_2, hfz18_3, hfz18_4, hfz18_5, hfz18_6⟩ := froz7_ BK257.out; obtain ⟨hcz19_0, hcz19_1, hcz19_2, hcz19_3, hcz19_4, hcz19_5, hcz19_6⟩ := cells7_ BK258.out; obtain ⟨hfz19_0, hfz19_1, hfz19_2, hfz19_3, hfz19_4, hfz19_5, hfz19_6⟩ := froz7_ BK258.out))
   go_ret
   exact ⟨by first | rfl | (simp [errW_none, errW_some] <;> rfl) | (simp [*, errW_none, errW_some] <;> rfl), by repeat (with_reducible first | exact HB.out | apply bA_ | apply bN_ | apply b1_ | refine bS_ ?_ GE257.out | refine bS_ ?_ GE258.out)⟩
  rw [if_pos c9] at H
  have c9b0 : (a0_6.toList == a1_6.toList) = true := beq_iff_eq.mpr c9
  have c9b1 : (a0_6.toList != a1_6.toList) = false := bne_eq_false_iff_eq.mpr c9
  clear c9
  obtain rfl := Option.some.inj H
  go_enter Tryd.func67, Tryd.ntmps67
  go_wp2_with (first | ((with_reducible refine gD_ (N := 2) rfl ?_); refine bE_ ?hg (N := 2) ?hd (cs := #[.int .i64 a0_0, .int .i64 a0_1, .int .i64 a0_2, .int .i64 a0_3, .int .i64 a0_4, .string a0_5, .string a0_6]) (t := 55) ?hr ?_; (case hd => rfl); (case hg => rfl); (case hr => first | (go_simp; done) | (go_simp; rfl)); intro gb257 hg w10 hbox hb; have n0_ := Ad_.mk (bP_ (by repeat (with_reducible first | exact HB.out | apply bA_ | apply bN_ | apply b1_)) hb); have n1_ := Ad_.mk (hbox); have n2_ := Ad_.mk ((by rw [hg]; exact (bZ_ (by repeat (with_reducible first | exact HB.out | apply bA_ | apply bN_ | apply b1_))) : w.heap.size ≤ gb257)); have n3_ := Ad_.mk ((by rw [hg]; exact (bZ_ (by repeat (with_reducible first | exact HB.out | apply bA_ | apply bN_ | apply b1_))) : w.heap.size ≤ gb257)); clear HB; have HB := n0_; have BK257 := n1_; have GW257 := n2_; have GE257 := n3_; clear n0_ n1_ n2_ n3_; clear hb hbox hg) | ((with_reducible refine gD_ (N := 3) rfl ?_); refine bE_ ?hg (N := 3) ?hd (cs := #[.int .i64 a1_0, .int .i64 a1_1, .int .i64 a1_2, .int .i64 a1_3, .int .i64 a1_4, .string a1_5, .string a1_6]) (t := 55) ?hr ?_; (case hd => rfl); (case hg => rfl); (case hr => first | (go_simp; done) | (go_simp; rfl)); intro gb258 hg w11 hbox hb; have n0_ := Ad_.mk (blk_below (g := gb257) (o := .cells #[.int .i64 a0_0, .int .i64 a0_1, .int .i64 a0_2, .int .i64 a0_3, .int .i64 a0_4, .string a0_5, .string a0_6] 55 (0, 0)) (by (with_reducible repeat (first | refine kN_ ?_ _ | refine k1_ ?_ | refine kA_ ?_ _)); exact BK257.out) hb); have n1_ := Ad_.mk (bP_ (by repeat (with_reducible first | exact HB.out | apply bA_ | apply bN_ | apply b1_ | refine bS_ ?_ GE257.out)) hb); have n2_ := Ad_.mk (hbox); have n3_ := Ad_.mk ((by rw [hg]; exact (bZ_ (by repeat (with_reducible first | exact HB.out | apply bA_ | apply bN_ | apply b1_ | refine bS_ ?_ GE257.out))) : w.heap.size ≤ gb258)); have n4_ := Ad_.mk ((by rw [hg]; exact (bZ_ (by repeat (with_reducible first | exact HB.out | apply bA_ | apply bN_ | apply b1_ | refine bS_ ?_ GE257.out))) : w.heap.size ≤ gb258)); have n5_ := Ad_.mk ((by rw [hg]; exact Nat.ne_of_lt (blk_lt (g := gb257) (o := .cells #[.int .i64 a0_0, .int .i64 a0_1, .int .i64 a0_2, .int .i64 a0_3, .int .i64 a0_4, .string a0_5, .string a0_6] 55 (0, 0)) (by (with_reducible repeat (first | refine kN_ ?_ _ | refine k1_ ?_ | refine kA_ ?_ _)); exact BK257.out)) : gb257 ≠ gb258)); have n6_ := Ad_.mk ((by rw [hg]; exact Nat.ne_of_gt (blk_lt (g := gb257) (o := .cells #[.int .i64 a0_0, .int .i64 a0_1, .int .i64 a0_2, .int .i64 a0_3, .int .i64 a0_4, .string a0_5, .string a0_6] 55 (0, 0)) (by (with_reducible repeat (first | refine kN_ ?_ _ | refine k1_ ?_ | refine kA_ ?_ _)); exact BK257.out)) : gb258 ≠ gb257)); clear BK257; clear HB; have BK257 := n0_; have HB := n1_; have BK258 := n2_; have GW258 := n3_; have GE258 := n4_; have NB257_258 := n5_; have NB258_257 := n6_; clear n0_ n1_ n2_ n3_ n4_ n5_ n6_; clear hb hbox hg; have hnb12 := NB257_258.out; have hnc12 := NB258_257.out; obtain ⟨hcz13_0, hcz13_1, hcz13_2, hcz13_3, hcz13_4, hcz13_5, hcz13_6⟩ := cells7_ BK257.out; obtain ⟨hfz13_0, hfz13_1, hfz13_2, hfz13_3, hfz13_4, hfz13_5, hfz13_6⟩ := froz7_ BK257.out; obtain ⟨hcz14_0, hcz14_1, hcz14_2, hcz14_3, hcz14_4, hcz14_5, hcz14_6⟩ := cells7_ BK258.out; obtain ⟨hfz14_0, hfz14_1, hfz14_2, hfz14_3, hfz14_4, hfz14_5, hfz14_6⟩ := froz7_ BK258.out))
  go_ret
  exact ⟨by first | rfl | (simp [errW_none, errW_some] <;> rfl) | (simp [*, errW_none, errW_some] <;> rfl), by repeat (with_reducible first | exact HB.out | apply bA_ | apply bN_ | apply b1_ | refine bS_ ?_ GE257.out | refine bS_ ?_ GE258.out)⟩
end Go.Proofs.YtfmlamheflbgdaaDoor.PAll
end
section
namespace Go.Proofs.YtfmlamheflbgdaaDoor.PAll
open Go.RowKit Go.Proofs.YtfmlamheflbgdaaDoorW.PrintWords Go.Proofs.YtfmlamheflbgdaaDoorW.PrintLast Go.Proofs.YtfmlamheflbgdaaDoorW.PrintMore
attribute [local go_sem] max2_int min2_int max_two min_two max_three min_three max_four min_four
set_option linter.unusedVariables false
set_option linter.unusedSimpArgs false
def laws_eqNodeS.l0 : Nat → List (S55) → List (S55) → Int → Option (Bool)
  | 0, _, _, _ => none
  | k + 1, x0, x1, x5 => if x5 < (x0.length : Int) then (if 0 ≤ x5 then (if x5 < (x1.length : Int) then ((laws_eqNode.f ((rd_T55 x0 x5).f0) ((rd_T55 x0 x5).f1) ((rd_T55 x0 x5).f2) ((rd_T55 x0 x5).f3) ((rd_T55 x0 x5).f4) ((rd_T55 x0 x5).f5) ((rd_T55 x0 x5).f6) ((rd_T55 x1 x5).f0) ((rd_T55 x1 x5).f1) ((rd_T55 x1 x5).f2) ((rd_T55 x1 x5).f3) ((rd_T55 x1 x5).f4) ((rd_T55 x1 x5).f5) ((rd_T55 x1 x5).f6)).bind fun t261 => (if t261 = true then (laws_eqNodeS.l0 k x0 x1 (wrap64 (x5 + 1))) else (some false))) else (none)) else (none)) else (some true)
def laws_eqNodeS.f (k : Nat) (l0 : List (S55)) (l1 : List (S55)) : Option (Bool) := if (l0.length : Int) = (l1.length : Int) then (laws_eqNodeS.l0 k l0 l1 0) else (some false)
theorem laws_eqNodeS.mono_l : ∀ k, (∀ y0 y1 y2, LeO (laws_eqNodeS.l0 k y0 y1 y2) (laws_eqNodeS.l0 (k + 1) y0 y1 y2))
  | 0 => fun _ _ _ r h => by simp [laws_eqNodeS.l0] at h
  | k + 1 => by
    have ih0 := laws_eqNodeS.mono_l k
    · intro y0 y1 y2
      unfold laws_eqNodeS.l0
      repeat' first
      | (with_reducible exact ih0 _ _ _)
      | (with_reducible exact LeO.refl _)
      | (with_reducible exact LeO.none _)
      | (with_reducible refine LeO.ite ?_ ?_)
      | (with_reducible refine LeO.bind ?_ (fun _ => ?_))
      | exact LeO.none _
      | refine LeO.ite ?_ ?_
      | refine LeO.bind ?_ (fun _ => ?_)
theorem laws_eqNodeS.mono : ∀ a0 a1 k, LeO (laws_eqNodeS.f k a0 a1) (laws_eqNodeS.f (k + 1) a0 a1) := by
  intro a0 a1 k
  have ih0 := laws_eqNodeS.mono_l k
  unfold laws_eqNodeS.f
  repeat' first
      | (with_reducible exact ih0 _ _ _)
      | (with_reducible exact LeO.refl _)
      | (with_reducible exact LeO.none _)
      | (with_reducible refine LeO.ite ?_ ?_)
      | (with_reducible refine LeO.bind ?_ (fun _ => ?_))
      | exact LeO.none _
      | refine LeO.ite ?_ ?_
      | refine LeO.bind ?_ (fun _ => ?_)
def laws_eqNodeS.T6 : Bool × List (List Nat × List Nat) := (true, [([], []), ([], []), ([0, 1], [0, 1]), ([2], [2]), ([], []), ([], []), ([4, 5], [4, 5]), ([6], [6]), ([3, 7], [3, 7]), ([8], [8])])
def laws_eqNodeS.B6 : List Nat := [0, 0, 3, 7, 0, 0, 48, 112, 255, 511]
theorem laws_eqNodeS.tab6 : rtab .any (opsOf Tryd.f18 6) = laws_eqNodeS.T6 := by kernel_rfl
theorem laws_eqNodeS.bits6 : waitsOk laws_eqNodeS.T6.2 laws_eqNodeS.B6 = true := by kernel_rfl
set_option maxHeartbeats 8000000 in
set_option maxRecDepth 100000 in
theorem laws_eqNodeS.calls (k : Nat) (A0 : Option Addr) (c0 : Nat) (l0 : List (S55)) (A1 : Option Addr) (c1 : Nat) (l1 : List (S55)) (r : Bool) (w : World) (hr0 : Kd.C k55 w A0 l0.length l0) (hc0 : l0.length ≤ c0) (hr1 : Kd.C k55 w A1 l1.length l1) (hc1 : l1.length ≤ c1) (h : laws_eqNodeS.f k l0 l1 = some r) :
    Calls Tryd.prog 18 #[.slice A0 l0.length c0, .slice A1 l1.length c1] w fun e w' => e = .returned (.bool r) ∧ Below w.heap.size w w' := by
  have hu55 := Tryd.underlying55
  have HR0 := Ad_.mk hr0
  have HC0 := Ad_.mk hc0
  clear hr0 hc0
  have HR1 := Ad_.mk hr1
  have HC1 := Ad_.mk hc1
  clear hr1 hc1
  have HB := Ad_.mk (Below.refl w.heap.size w)
  have H := h
  unfold laws_eqNodeS.f at H
  clear h
  by_cases c3 : (l0.length : Int) = (l1.length : Int)
  rotate_left
  ·
   rw [if_neg c3] at H
   have c3b0 : ((l0.length : Int) == (l1.length : Int)) = false := beq_eq_false_iff_ne.mpr c3
   have c3b1 : ((l0.length : Int) != (l1.length : Int)) = true := bne_iff_ne.mpr c3
   have c3b2 : (l0.length == l1.length) = false := by first | simpa using c3 | (simp at c3 ⊢; omega)
   obtain rfl := Option.some.inj H
   go_enter Tryd.func18, Tryd.ntmps18
   go_wp2
   go_ret
   exact ⟨by first | rfl | (simp [errW_none, errW_some] <;> rfl) | (simp [*, errW_none, errW_some] <;> rfl), by repeat (with_reducible first | exact HB.out | apply bA_ | apply bN_ | apply b1_)⟩
  rw [if_pos c3] at H
  have c3b0 : ((l0.length : Int) == (l1.length : Int)) = true := beq_iff_eq.mpr c3
  have c3b1 : ((l0.length : Int) != (l1.length : Int)) = false := bne_eq_false_iff_eq.mpr c3
  have c3b2 : (l0.length == l1.length) = true := by first | simpa using c3 | (simp at c3 ⊢; omega)
  clear c3
  have H' := Ad_.mk H
  clear H
  go_enter Tryd.func18, Tryd.ntmps18
  go_wp2
  go_loopg [5] k (fun kq v5 w' => ∃ (x5_1 : Int), v5 = .int .i64 x5_1 ∧ Ad_ (laws_eqNodeS.l0 kq l0 l1 x5_1 = some r) ∧ Ad_ (kq ≤ k) ∧ Ad_ (Below w.heap.size w w'))
  case atStart => exact ⟨(0), fs_, H', ⟨Nat.le_refl _⟩, ⟨by repeat (with_reducible first | exact HB.out | apply bA_ | apply bN_ | apply b1_)⟩⟩
  case round =>
    clear H'
    try clear p2
    try clear c3b0 c3b1 c3b2
    obtain ⟨x5_1, rfl, HA, HK1, HB⟩ := hrel
    cases gk with
    | zero => exact absurd HA.out (by simp [laws_eqNodeS.l0])
    | succ k1 =>
      have H := HA.out
      clear HA
      simp only [laws_eqNodeS.l0] at H
      by_cases c4 : x5_1 < (l0.length : Int)
      rotate_left
      ·
       rw [if_neg c4] at H
       have c4b0 := decide_eq_false c4
       clear c4
       obtain rfl := Option.some.inj H
       go_wp2
       go_ret
       exact ⟨by first | rfl | (simp [errW_none, errW_some] <;> rfl) | (simp [*, errW_none, errW_some] <;> rfl), by repeat (with_reducible first | exact HB.out | apply bA_ | apply bN_ | apply b1_)⟩
      rw [if_pos c4] at H
      have c4b0 := decide_eq_true c4
      clear c4
      by_cases c5 : 0 ≤ x5_1
      rotate_left
      ·
       rw [if_neg c5] at H
       exact absurd H (by simp)
      rw [if_pos c5] at H
      have c5b0 := decide_eq_true c5
      clear c5
      by_cases c6 : x5_1 < (l1.length : Int)
      rotate_left
      ·
       rw [if_neg c6] at H
       exact absurd H (by simp)
      rw [if_pos c6] at H
      have c6b0 := decide_eq_true c6
      clear c6
      replace H := Option.bind_eq_some_iff.mp H
      obtain ⟨t261, A70, H⟩ := H
      try dsimp only at H
      have A7 := Ad_.mk A70
      clear A70
      by_cases c8 : t261 = true
      ·
       subst c8
       have H1 := H
       rw [if_pos rfl] at H1
       clear H
       have H := H1
       clear H1
       have H' := Ad_.mk H
       clear H
       try go_wp2
       have n0_ := Ad_.mk (b1_ HB.out)
       clear HB
       have HB := n0_
       clear n0_
       have p259 : 0 ≤ (x5_1 : Int) := od_
       have q259 : x5_1 < (l0.length : Int) := od_
       obtain ⟨ad259, e259, hx259_0, hx259_1, hx259_2, hx259_3, hx259_4, hx259_5, hx259_6⟩ := at_T55 HR0.out x5_1 p259 q259
       have hw259_6 := hx259_6
       have hw259_5 := hx259_5
       have hw259_4 := hx259_4
       have hw259_3 := hx259_3
       have hw259_2 := hx259_2
       have hw259_1 := hx259_1
       have hw259_0 := hx259_0
       cases e259
       replace hx259_0 := pB_ HB.out hx259_0
       replace hx259_1 := pB_ HB.out hx259_1
       replace hx259_2 := pB_ HB.out hx259_2
       replace hx259_3 := pB_ HB.out hx259_3
       replace hx259_4 := pB_ HB.out hx259_4
       replace hx259_5 := pB_ HB.out hx259_5
       replace hx259_6 := pB_ HB.out hx259_6
       replace p259 := eq_true p259
       replace q259 := eq_true q259
       have p260 : 0 ≤ (x5_1 : Int) := od_
       have q260 : x5_1 < (l1.length : Int) := od_
       obtain ⟨ad260, e260, hx260_0, hx260_1, hx260_2, hx260_3, hx260_4, hx260_5, hx260_6⟩ := at_T55 HR1.out x5_1 p260 q260
       have hw260_6 := hx260_6
       have hw260_5 := hx260_5
       have hw260_4 := hx260_4
       have hw260_3 := hx260_3
       have hw260_2 := hx260_2
       have hw260_1 := hx260_1
       have hw260_0 := hx260_0
       cases e260
       replace hx260_0 := pB_ HB.out hx260_0
       replace hx260_1 := pB_ HB.out hx260_1
       replace hx260_2 := pB_ HB.out hx260_2
       replace hx260_3 := pB_ HB.out hx260_3
       replace hx260_4 := pB_ HB.out hx260_4
       replace hx260_5 := pB_ HB.out hx260_5
       replace hx260_6 := pB_ HB.out hx260_6
       replace p260 := eq_true p260
       replace q260 := eq_true q260
       refine start_ (n := 10) (S := fun w' => w'.cell? (ad259.add ((x5_1).toNat * 7)) = some (.int .i64 ((rd_T55 l0 x5_1).f0)) ∧ w'.cell? ⟨(ad259.add ((x5_1).toNat * 7)).block, (ad259.add ((x5_1).toNat * 7)).off + 1, none⟩ = some (.int .i64 ((rd_T55 l0 x5_1).f1)) ∧ w'.cell? ⟨(ad259.add ((x5_1).toNat * 7)).block, (ad259.add ((x5_1).toNat * 7)).off + 2, none⟩ = some (.int .i64 ((rd_T55 l0 x5_1).f2)) ∧ w'.cell? ⟨(ad259.add ((x5_1).toNat * 7)).block, (ad259.add ((x5_1).toNat * 7)).off + 3, none⟩ = some (.int .i64 ((rd_T55 l0 x5_1).f3)) ∧ w'.cell? ⟨(ad259.add ((x5_1).toNat * 7)).block, (ad259.add ((x5_1).toNat * 7)).off + 4, none⟩ = some (.int .i64 ((rd_T55 l0 x5_1).f4)) ∧ w'.cell? ⟨(ad259.add ((x5_1).toNat * 7)).block, (ad259.add ((x5_1).toNat * 7)).off + 5, none⟩ = some (.string ((rd_T55 l0 x5_1).f5)) ∧ w'.cell? ⟨(ad259.add ((x5_1).toNat * 7)).block, (ad259.add ((x5_1).toNat * 7)).off + 6, none⟩ = some (.string ((rd_T55 l0 x5_1).f6)) ∧ w'.cell? (ad260.add ((x5_1).toNat * 7)) = some (.int .i64 ((rd_T55 l1 x5_1).f0)) ∧ w'.cell? ⟨(ad260.add ((x5_1).toNat * 7)).block, (ad260.add ((x5_1).toNat * 7)).off + 1, none⟩ = some (.int .i64 ((rd_T55 l1 x5_1).f1)) ∧ w'.cell? ⟨(ad260.add ((x5_1).toNat * 7)).block, (ad260.add ((x5_1).toNat * 7)).off + 2, none⟩ = some (.int .i64 ((rd_T55 l1 x5_1).f2)) ∧ w'.cell? ⟨(ad260.add ((x5_1).toNat * 7)).block, (ad260.add ((x5_1).toNat * 7)).off + 3, none⟩ = some (.int .i64 ((rd_T55 l1 x5_1).f3)) ∧ w'.cell? ⟨(ad260.add ((x5_1).toNat * 7)).block, (ad260.add ((x5_1).toNat * 7)).off + 4, none⟩ = some (.int .i64 ((rd_T55 l1 x5_1).f4)) ∧ w'.cell? ⟨(ad260.add ((x5_1).toNat * 7)).block, (ad260.add ((x5_1).toNat * 7)).off + 5, none⟩ = some (.string ((rd_T55 l1 x5_1).f5)) ∧ w'.cell? ⟨(ad260.add ((x5_1).toNat * 7)).block, (ad260.add ((x5_1).toNat * 7)).off + 6, none⟩ = some (.string ((rd_T55 l1 x5_1).f6))) (ds := []) #[fb_,fb_,fb_,fb_,fb_,fb_,fb_,fb_,fb_,fb_] (by kernel_rfl) rfl rfl ⟨((HB.out.cell (World.block_lt_of_cell? w _ hw259_0)).trans hw259_0), ((HB.out.cell (World.block_lt_of_cell? w _ hw259_1)).trans hw259_1), ((HB.out.cell (World.block_lt_of_cell? w _ hw259_2)).trans hw259_2), ((HB.out.cell (World.block_lt_of_cell? w _ hw259_3)).trans hw259_3), ((HB.out.cell (World.block_lt_of_cell? w _ hw259_4)).trans hw259_4), ((HB.out.cell (World.block_lt_of_cell? w _ hw259_5)).trans hw259_5), ((HB.out.cell (World.block_lt_of_cell? w _ hw259_6)).trans hw259_6), ((HB.out.cell (World.block_lt_of_cell? w _ hw260_0)).trans hw260_0), ((HB.out.cell (World.block_lt_of_cell? w _ hw260_1)).trans hw260_1), ((HB.out.cell (World.block_lt_of_cell? w _ hw260_2)).trans hw260_2), ((HB.out.cell (World.block_lt_of_cell? w _ hw260_3)).trans hw260_3), ((HB.out.cell (World.block_lt_of_cell? w _ hw260_4)).trans hw260_4), ((HB.out.cell (World.block_lt_of_cell? w _ hw260_5)).trans hw260_5), ((HB.out.cell (World.block_lt_of_cell? w _ hw260_6)).trans hw260_6)⟩ (fun hHeld => ?_); refine with_tabW laws_eqNodeS.tab6 laws_eqNodeS.bits6 (fun HT_ HW_ => ?_)
       generalize wr.drew = w9 at HB hx259_0 hx259_1 hx259_2 hx259_3 hx259_4 hx259_5 hx259_6 hx260_0 hx260_1 hx260_2 hx260_3 hx260_4 hx260_5 hx260_6 hHeld ⊢
       refine pure_ (i := 0) (N := some 17) (v := ?_) (a' := ?_) #[tb_,fb_,fb_,fb_,fb_,fb_,fb_,fb_,fb_,fb_] rfl rfl (any_of HT_.out (by kernel_rfl)) (fun _ _ _ h => h) (Or.inl ⟨by rfl, ?_⟩) ?_ ?_
       rotate_left
       ·
        intro w'
        go_simp
        with_reducible rfl
       rotate_left
       ·
        simp only [Act.put, List.setIfInBounds_toArray, List.set_cons_zero, List.set_cons_succ, i64_w, i32_w]
        rfl
       refine pure_ (i := 1) (N := some 18) (v := ?_) (a' := ?_) #[tb_,tb_,fb_,fb_,fb_,fb_,fb_,fb_,fb_,fb_] rfl rfl (any_of HT_.out (by kernel_rfl)) (fun _ _ _ h => h) (Or.inl ⟨by rfl, ?_⟩) ?_ ?_
       rotate_left
       ·
        intro w'
        go_simp
        with_reducible rfl
       rotate_left
       ·
        simp only [Act.put, List.setIfInBounds_toArray, List.set_cons_zero, List.set_cons_succ, i64_w, i32_w]
        rfl
       refine pure_ (i := 2) (N := some 19) (v := ?_) (a' := ?_) #[tb_,tb_,tb_,fb_,fb_,fb_,fb_,fb_,fb_,fb_] rfl rfl (any_of HT_.out (by kernel_rfl)) (fun _ _ _ h => h) (Or.inl ⟨by rfl, ?_⟩) ?_ ?_
       rotate_left
       ·
        intro w'
        go_simp
        with_reducible rfl
       rotate_left
       ·
        simp only [Act.put, List.setIfInBounds_toArray, List.set_cons_zero, List.set_cons_succ, i64_w, i32_w]
        rfl
       refine pure_ (i := 4) (N := some 21) (v := ?_) (a' := ?_) #[tb_,tb_,tb_,fb_,tb_,fb_,fb_,fb_,fb_,fb_] rfl rfl (any_of HT_.out (by kernel_rfl)) (fun _ _ _ h => h) (Or.inl ⟨by rfl, ?_⟩) ?_ ?_
       rotate_left
       ·
        intro w'
        go_simp
        with_reducible rfl
       rotate_left
       ·
        simp only [Act.put, List.setIfInBounds_toArray, List.set_cons_zero, List.set_cons_succ, i64_w, i32_w]
        rfl
       refine pure_ (i := 5) (N := some 22) (v := ?_) (a' := ?_) #[tb_,tb_,tb_,fb_,tb_,tb_,fb_,fb_,fb_,fb_] rfl rfl (any_of HT_.out (by kernel_rfl)) (fun _ _ _ h => h) (Or.inl ⟨by rfl, ?_⟩) ?_ ?_
       rotate_left
       ·
        intro w'
        go_simp
        with_reducible rfl
       rotate_left
       ·
        simp only [Act.put, List.setIfInBounds_toArray, List.set_cons_zero, List.set_cons_succ, i64_w, i32_w]
        rfl
       refine pure_ (i := 6) (N := some 23) (v := ?_) (a' := ?_) #[tb_,tb_,tb_,fb_,tb_,tb_,tb_,fb_,fb_,fb_] rfl rfl (any_of HT_.out (by kernel_rfl)) (fun _ _ _ h => h) (Or.inl ⟨by rfl, ?_⟩) ?_ ?_
       rotate_left
       ·
        intro w'
        go_simp
        with_reducible rfl
       rotate_left
       ·
        simp only [Act.put, List.setIfInBounds_toArray, List.set_cons_zero, List.set_cons_succ, i64_w, i32_w]
        rfl
       refine take_ (i := 3) (N := some 20) (v := ?_) (a' := ?_) #[tb_,tb_,tb_,tb_,tb_,tb_,tb_,fb_,fb_,fb_] rfl rfl (take_ofW HT_.out HW_.out (by kernel_rfl)) (fun _ _ _ h => h) (Or.inl ⟨by rfl, ?_⟩) hHeld ?_ ?_
       rotate_left
       ·
        rintro w' ⟨s0, s1, s2, s3, s4, s5, s6, s7, s8, s9, s10, s11, s12, s13⟩
        go_simp
        with_reducible rfl
       rotate_left
       ·
        simp only [Act.put, List.setIfInBounds_toArray, List.set_cons_zero, List.set_cons_succ, i64_w, i32_w]
        rfl
       refine take_ (i := 7) (N := some 24) (v := ?_) (a' := ?_) #[tb_,tb_,tb_,tb_,tb_,tb_,tb_,tb_,fb_,fb_] rfl rfl (take_ofW HT_.out HW_.out (by kernel_rfl)) (fun _ _ _ h => h) (Or.inl ⟨by rfl, ?_⟩) hHeld ?_ ?_
       rotate_left
       ·
        rintro w' ⟨s0, s1, s2, s3, s4, s5, s6, s7, s8, s9, s10, s11, s12, s13⟩
        go_simp
        with_reducible rfl
       rotate_left
       ·
        simp only [Act.put, List.setIfInBounds_toArray, List.set_cons_zero, List.set_cons_succ, i64_w, i32_w]
        rfl
       refine one_ (i := 8) (N := some 25) #[tb_,tb_,tb_,tb_,tb_,tb_,tb_,tb_,tb_,fb_] rfl rfl (one_of HT_.out (by kernel_rfl)) (by decide) (fun K hK => ?_)
       refine goes_ Tryd.func67 (by kernel_rfl) rfl #[.agg #[.int .i64 ((rd_T55 l0 x5_1).f0), .int .i64 ((rd_T55 l0 x5_1).f1), .int .i64 ((rd_T55 l0 x5_1).f2), .int .i64 ((rd_T55 l0 x5_1).f3), .int .i64 ((rd_T55 l0 x5_1).f4), .string ((rd_T55 l0 x5_1).f5), .string ((rd_T55 l0 x5_1).f6)], .agg #[.int .i64 ((rd_T55 l1 x5_1).f0), .int .i64 ((rd_T55 l1 x5_1).f1), .int .i64 ((rd_T55 l1 x5_1).f2), .int .i64 ((rd_T55 l1 x5_1).f3), .int .i64 ((rd_T55 l1 x5_1).f4), .string ((rd_T55 l1 x5_1).f5), .string ((rd_T55 l1 x5_1).f6)]] (by rfl) rfl rfl (by (try simp only [List.map_toArray, List.map_cons, List.map_nil]); first | done | rfl | (simp only [List.length_drop, List.length_take]; rfl)) ?_
       with_reducible refine (laws_eqNode.calls ((rd_T55 l0 x5_1).f0) ((rd_T55 l0 x5_1).f1) ((rd_T55 l0 x5_1).f2) ((rd_T55 l0 x5_1).f3) ((rd_T55 l0 x5_1).f4) ((rd_T55 l0 x5_1).f5) ((rd_T55 l0 x5_1).f6) ((rd_T55 l1 x5_1).f0) ((rd_T55 l1 x5_1).f1) ((rd_T55 l1 x5_1).f2) ((rd_T55 l1 x5_1).f3) ((rd_T55 l1 x5_1).f4) ((rd_T55 l1 x5_1).f5) ((rd_T55 l1 x5_1).f6) true _ A7.out).mono ?_
       rintro e w10 ⟨rfl, hb⟩
       refine ⟨_, rfl, ?_⟩
       have n0_ := Ad_.mk (bP_ (by repeat (with_reducible first | exact HB.out | apply bA_ | apply bN_ | apply b1_)) hb)
       clear HB
       have HB := n0_
       clear n0_
       (try clear hb)
       (try clear hb2)
       (try clear hk)
       (try clear hi)
       refine hK.out _ _ ⟨((HB.out.cell (World.block_lt_of_cell? w _ hw259_0)).trans hw259_0), ((HB.out.cell (World.block_lt_of_cell? w _ hw259_1)).trans hw259_1), ((HB.out.cell (World.block_lt_of_cell? w _ hw259_2)).trans hw259_2), ((HB.out.cell (World.block_lt_of_cell? w _ hw259_3)).trans hw259_3), ((HB.out.cell (World.block_lt_of_cell? w _ hw259_4)).trans hw259_4), ((HB.out.cell (World.block_lt_of_cell? w _ hw259_5)).trans hw259_5), ((HB.out.cell (World.block_lt_of_cell? w _ hw259_6)).trans hw259_6), ((HB.out.cell (World.block_lt_of_cell? w _ hw260_0)).trans hw260_0), ((HB.out.cell (World.block_lt_of_cell? w _ hw260_1)).trans hw260_1), ((HB.out.cell (World.block_lt_of_cell? w _ hw260_2)).trans hw260_2), ((HB.out.cell (World.block_lt_of_cell? w _ hw260_3)).trans hw260_3), ((HB.out.cell (World.block_lt_of_cell? w _ hw260_4)).trans hw260_4), ((HB.out.cell (World.block_lt_of_cell? w _ hw260_5)).trans hw260_5), ((HB.out.cell (World.block_lt_of_cell? w _ hw260_6)).trans hw260_6)⟩ (fun hHeld => ?_)
       clear hK K
       refine norm_ (a' := ?_) ?_ ?_
       rotate_left
       ·
        show Act.put _ (some 25) _ = _
        simp only [Act.put, List.setIfInBounds_toArray, List.set_cons_zero, List.set_cons_succ, i64_w, i32_w]
        rfl
       refine pure_ (i := 9) (N := some 26) (v := ?_) (a' := ?_) #[tb_,tb_,tb_,tb_,tb_,tb_,tb_,tb_,tb_,tb_] rfl rfl (any_of HT_.out (by kernel_rfl)) (fun _ _ _ h => h) (Or.inl ⟨by rfl, ?_⟩) ?_ ?_
       rotate_left
       ·
        intro w'
        go_simp
        with_reducible rfl
       rotate_left
       ·
        simp only [Act.put, List.setIfInBounds_toArray, List.set_cons_zero, List.set_cons_succ, i64_w, i32_w]
        rfl
       refine done_ (done_of HT_.out (by kernel_rfl)) ?_
       try go_wp2
       go_roundg k1
       case measure => have := HK1.out; omega
       case rel => exact ⟨(wrap64 (x5_1 + 1)), fs_, H', ⟨by have := HK1.out; omega⟩, ⟨by repeat (with_reducible first | exact HB.out | apply bA_ | apply bN_ | apply b1_)⟩⟩
      replace c8 := Bool.eq_false_iff.mpr c8
      subst c8
      have H1 : (some false) = some r := by rw [if_neg (show ¬ (false = true) by decide)] at H; exact H
      clear H
      have H := H1
      clear H1
      obtain rfl := Option.some.inj H
      try go_wp2
      have n0_ := Ad_.mk (b1_ HB.out)
      clear HB
      have HB := n0_
      clear n0_
      have p259 : 0 ≤ (x5_1 : Int) := od_
      have q259 : x5_1 < (l0.length : Int) := od_
      obtain ⟨ad259, e259, hx259_0, hx259_1, hx259_2, hx259_3, hx259_4, hx259_5, hx259_6⟩ := at_T55 HR0.out x5_1 p259 q259
      have hw259_6 := hx259_6
      have hw259_5 := hx259_5
      have hw259_4 := hx259_4
      have hw259_3 := hx259_3
      have hw259_2 := hx259_2
      have hw259_1 := hx259_1
      have hw259_0 := hx259_0
      cases e259
      replace hx259_0 := pB_ HB.out hx259_0
      replace hx259_1 := pB_ HB.out hx259_1
      replace hx259_2 := pB_ HB.out hx259_2
      replace hx259_3 := pB_ HB.out hx259_3
      replace hx259_4 := pB_ HB.out hx259_4
      replace hx259_5 := pB_ HB.out hx259_5
      replace hx259_6 := pB_ HB.out hx259_6
      replace p259 := eq_true p259
      replace q259 := eq_true q259
      have p260 : 0 ≤ (x5_1 : Int) := od_
      have q260 : x5_1 < (l1.length : Int) := od_
      obtain ⟨ad260, e260, hx260_0, hx260_1, hx260_2, hx260_3, hx260_4, hx260_5, hx260_6⟩ := at_T55 HR1.out x5_1 p260 q260
      have hw260_6 := hx260_6
      have hw260_5 := hx260_5
      have hw260_4 := hx260_4
      have hw260_3 := hx260_3
      have hw260_2 := hx260_2
      have hw260_1 := hx260_1
      have hw260_0 := hx260_0
      cases e260
      replace hx260_0 := pB_ HB.out hx260_0
      replace hx260_1 := pB_ HB.out hx260_1
      replace hx260_2 := pB_ HB.out hx260_2
      replace hx260_3 := pB_ HB.out hx260_3
      replace hx260_4 := pB_ HB.out hx260_4
      replace hx260_5 := pB_ HB.out hx260_5
      replace hx260_6 := pB_ HB.out hx260_6
      replace p260 := eq_true p260
      replace q260 := eq_true q260
      refine start_ (n := 10) (S := fun w' => w'.cell? (ad259.add ((x5_1).toNat * 7)) = some (.int .i64 ((rd_T55 l0 x5_1).f0)) ∧ w'.cell? ⟨(ad259.add ((x5_1).toNat * 7)).block, (ad259.add ((x5_1).toNat * 7)).off + 1, none⟩ = some (.int .i64 ((rd_T55 l0 x5_1).f1)) ∧ w'.cell? ⟨(ad259.add ((x5_1).toNat * 7)).block, (ad259.add ((x5_1).toNat * 7)).off + 2, none⟩ = some (.int .i64 ((rd_T55 l0 x5_1).f2)) ∧ w'.cell? ⟨(ad259.add ((x5_1).toNat * 7)).block, (ad259.add ((x5_1).toNat * 7)).off + 3, none⟩ = some (.int .i64 ((rd_T55 l0 x5_1).f3)) ∧ w'.cell? ⟨(ad259.add ((x5_1).toNat * 7)).block, (ad259.add ((x5_1).toNat * 7)).off + 4, none⟩ = some (.int .i64 ((rd_T55 l0 x5_1).f4)) ∧ w'.cell? ⟨(ad259.add ((x5_1).toNat * 7)).block, (ad259.add ((x5_1).toNat * 7)).off + 5, none⟩ = some (.string ((rd_T55 l0 x5_1).f5)) ∧ w'.cell? ⟨(ad259.add ((x5_1).toNat * 7)).block, (ad259.add ((x5_1).toNat * 7)).off + 6, none⟩ = some (.string ((rd_T55 l0 x5_1).f6)) ∧ w'.cell? (ad260.add ((x5_1).toNat * 7)) = some (.int .i64 ((rd_T55 l1 x5_1).f0)) ∧ w'.cell? ⟨(ad260.add ((x5_1).toNat * 7)).block, (ad260.add ((x5_1).toNat * 7)).off + 1, none⟩ = some (.int .i64 ((rd_T55 l1 x5_1).f1)) ∧ w'.cell? ⟨(ad260.add ((x5_1).toNat * 7)).block, (ad260.add ((x5_1).toNat * 7)).off + 2, none⟩ = some (.int .i64 ((rd_T55 l1 x5_1).f2)) ∧ w'.cell? ⟨(ad260.add ((x5_1).toNat * 7)).block, (ad260.add ((x5_1).toNat * 7)).off + 3, none⟩ = some (.int .i64 ((rd_T55 l1 x5_1).f3)) ∧ w'.cell? ⟨(ad260.add ((x5_1).toNat * 7)).block, (ad260.add ((x5_1).toNat * 7)).off + 4, none⟩ = some (.int .i64 ((rd_T55 l1 x5_1).f4)) ∧ w'.cell? ⟨(ad260.add ((x5_1).toNat * 7)).block, (ad260.add ((x5_1).toNat * 7)).off + 5, none⟩ = some (.string ((rd_T55 l1 x5_1).f5)) ∧ w'.cell? ⟨(ad260.add ((x5_1).toNat * 7)).block, (ad260.add ((x5_1).toNat * 7)).off + 6, none⟩ = some (.string ((rd_T55 l1 x5_1).f6))) (ds := []) #[fb_,fb_,fb_,fb_,fb_,fb_,fb_,fb_,fb_,fb_] (by kernel_rfl) rfl rfl ⟨((HB.out.cell (World.block_lt_of_cell? w _ hw259_0)).trans hw259_0), ((HB.out.cell (World.block_lt_of_cell? w _ hw259_1)).trans hw259_1), ((HB.out.cell (World.block_lt_of_cell? w _ hw259_2)).trans hw259_2), ((HB.out.cell (World.block_lt_of_cell? w _ hw259_3)).trans hw259_3), ((HB.out.cell (World.block_lt_of_cell? w _ hw259_4)).trans hw259_4), ((HB.out.cell (World.block_lt_of_cell? w _ hw259_5)).trans hw259_5), ((HB.out.cell (World.block_lt_of_cell? w _ hw259_6)).trans hw259_6), ((HB.out.cell (World.block_lt_of_cell? w _ hw260_0)).trans hw260_0), ((HB.out.cell (World.block_lt_of_cell? w _ hw260_1)).trans hw260_1), ((HB.out.cell (World.block_lt_of_cell? w _ hw260_2)).trans hw260_2), ((HB.out.cell (World.block_lt_of_cell? w _ hw260_3)).trans hw260_3), ((HB.out.cell (World.block_lt_of_cell? w _ hw260_4)).trans hw260_4), ((HB.out.cell (World.block_lt_of_cell? w _ hw260_5)).trans hw260_5), ((HB.out.cell (World.block_lt_of_cell? w _ hw260_6)).trans hw260_6)⟩ (fun hHeld => ?_); refine with_tabW laws_eqNodeS.tab6 laws_eqNodeS.bits6 (fun HT_ HW_ => ?_)
      generalize wr.drew = w11 at HB hx259_0 hx259_1 hx259_2 hx259_3 hx259_4 hx259_5 hx259_6 hx260_0 hx260_1 hx260_2 hx260_3 hx260_4 hx260_5 hx260_6 hHeld ⊢
      refine pure_ (i := 0) (N := some 17) (v := ?_) (a' := ?_) #[tb_,fb_,fb_,fb_,fb_,fb_,fb_,fb_,fb_,fb_] rfl rfl (any_of HT_.out (by kernel_rfl)) (fun _ _ _ h => h) (Or.inl ⟨by rfl, ?_⟩) ?_ ?_
      rotate_left
      ·
       intro w'
       go_simp
       with_reducible rfl
      rotate_left
      ·
       simp only [Act.put, List.setIfInBounds_toArray, List.set_cons_zero, List.set_cons_succ, i64_w, i32_w]
       rfl
      refine pure_ (i := 1) (N := some 18) (v := ?_) (a' := ?_) #[tb_,tb_,fb_,fb_,fb_,fb_,fb_,fb_,fb_,fb_] rfl rfl (any_of HT_.out (by kernel_rfl)) (fun _ _ _ h => h) (Or.inl ⟨by rfl, ?_⟩) ?_ ?_
      rotate_left
      ·
       intro w'
       go_simp
       with_reducible rfl
      rotate_left
      ·
       simp only [Act.put, List.setIfInBounds_toArray, List.set_cons_zero, List.set_cons_succ, i64_w, i32_w]
       rfl
      refine pure_ (i := 2) (N := some 19) (v := ?_) (a' := ?_) #[tb_,tb_,tb_,fb_,fb_,fb_,fb_,fb_,fb_,fb_] rfl rfl (any_of HT_.out (by kernel_rfl)) (fun _ _ _ h => h) (Or.inl ⟨by rfl, ?_⟩) ?_ ?_
      rotate_left
      ·
       intro w'
       go_simp
       with_reducible rfl
      rotate_left
      ·
       simp only [Act.put, List.setIfInBounds_toArray, List.set_cons_zero, List.set_cons_succ, i64_w, i32_w]
       rfl
      refine pure_ (i := 4) (N := some 21) (v := ?_) (a' := ?_) #[tb_,tb_,tb_,fb_,tb_,fb_,fb_,fb_,fb_,fb_] rfl rfl (any_of HT_.out (by kernel_rfl)) (fun _ _ _ h => h) (Or.inl ⟨by rfl, ?_⟩) ?_ ?_
      rotate_left
      ·
       intro w'
       go_simp
       with_reducible rfl
      rotate_left
      ·
       simp only [Act.put, List.setIfInBounds_toArray, List.set_cons_zero, List.set_cons_succ, i64_w, i32_w]
       rfl
      refine pure_ (i := 5) (N := some 22) (v := ?_) (a' := ?_) #[tb_,tb_,tb_,fb_,tb_,tb_,fb_,fb_,fb_,fb_] rfl rfl (any_of HT_.out (by kernel_rfl)) (fun _ _ _ h => h) (Or.inl ⟨by rfl, ?_⟩) ?_ ?_
      rotate_left
      ·
       intro w'
       go_simp
       with_reducible rfl
      rotate_left
      ·
       simp only [Act.put, List.setIfInBounds_toArray, List.set_cons_zero, List.set_cons_succ, i64_w, i32_w]
       rfl
      refine pure_ (i := 6) (N := some 23) (v := ?_) (a' := ?_) #[tb_,tb_,tb_,fb_,tb_,tb_,tb_,fb_,fb_,fb_] rfl rfl (any_of HT_.out (by kernel_rfl)) (fun _ _ _ h => h) (Or.inl ⟨by rfl, ?_⟩) ?_ ?_
      rotate_left
      ·
       intro w'
       go_simp
       with_reducible rfl
      rotate_left
      ·
       simp only [Act.put, List.setIfInBounds_toArray, List.set_cons_zero, List.set_cons_succ, i64_w, i32_w]
       rfl
      refine take_ (i := 3) (N := some 20) (v := ?_) (a' := ?_) #[tb_,tb_,tb_,tb_,tb_,tb_,tb_,fb_,fb_,fb_] rfl rfl (take_ofW HT_.out HW_.out (by kernel_rfl)) (fun _ _ _ h => h) (Or.inl ⟨by rfl, ?_⟩) hHeld ?_ ?_
      rotate_left
      ·
       rintro w' ⟨s0, s1, s2, s3, s4, s5, s6, s7, s8, s9, s10, s11, s12, s13⟩
       go_simp
       with_reducible rfl
      rotate_left
      ·
       simp only [Act.put, List.setIfInBounds_toArray, List.set_cons_zero, List.set_cons_succ, i64_w, i32_w]
       rfl
      refine take_ (i := 7) (N := some 24) (v := ?_) (a' := ?_) #[tb_,tb_,tb_,tb_,tb_,tb_,tb_,tb_,fb_,fb_] rfl rfl (take_ofW HT_.out HW_.out (by kernel_rfl)) (fun _ _ _ h => h) (Or.inl ⟨by rfl, ?_⟩) hHeld ?_ ?_
      rotate_left
      ·
       rintro w' ⟨s0, s1, s2, s3, s4, s5, s6, s7, s8, s9, s10, s11, s12, s13⟩
       go_simp
       with_reducible rfl
      rotate_left
      ·
       simp only [Act.put, List.setIfInBounds_toArray, List.set_cons_zero, List.set_cons_succ, i64_w, i32_w]
       rfl
      refine one_ (i := 8) (N := some 25) #[tb_,tb_,tb_,tb_,tb_,tb_,tb_,tb_,tb_,fb_] rfl rfl (one_of HT_.out (by kernel_rfl)) (by decide) (fun K hK => ?_)
      refine goes_ Tryd.func67 (by kernel_rfl) rfl #[.agg #[.int .i64 ((rd_T55 l0 x5_1).f0), .int .i64 ((rd_T55 l0 x5_1).f1), .int .i64 ((rd_T55 l0 x5_1).f2), .int .i64 ((rd_T55 l0 x5_1).f3), .int .i64 ((rd_T55 l0 x5_1).f4), .string ((rd_T55 l0 x5_1).f5), .string ((rd_T55 l0 x5_1).f6)], .agg #[.int .i64 ((rd_T55 l1 x5_1).f0), .int .i64 ((rd_T55 l1 x5_1).f1), .int .i64 ((rd_T55 l1 x5_1).f2), .int .i64 ((rd_T55 l1 x5_1).f3), .int .i64 ((rd_T55 l1 x5_1).f4), .string ((rd_T55 l1 x5_1).f5), .string ((rd_T55 l1 x5_1).f6)]] (by rfl) rfl rfl (by (try simp only [List.map_toArray, List.map_cons, List.map_nil]); first | done | rfl | (simp only [List.length_drop, List.length_take]; rfl)) ?_
      with_reducible refine (laws_eqNode.calls ((rd_T55 l0 x5_1).f0) ((rd_T55 l0 x5_1).f1) ((rd_T55 l0 x5_1).f2) ((rd_T55 l0 x5_1).f3) ((rd_T55 l0 x5_1).f4) ((rd_T55 l0 x5_1).f5) ((rd_T55 l0 x5_1).f6) ((rd_T55 l1 x5_1).f0) ((rd_T55 l1 x5_1).f1) ((rd_T55 l1 x5_1).f2) ((rd_T55 l1 x5_1).f3) ((rd_T55 l1 x5_1).f4) ((rd_T55 l1 x5_1).f5) ((rd_T55 l1 x5_1).f6) false _ A7.out).mono ?_
      rintro e w12 ⟨rfl, hb⟩
      refine ⟨_, rfl, ?_⟩
      have n0_ := Ad_.mk (bP_ (by repeat (with_reducible first | exact HB.out | apply bA_ | apply bN_ | apply b1_)) hb)
      clear HB
      have HB := n0_
      clear n0_
      (try clear hb)
      (try clear hb2)
      (try clear hk)
      (try clear hi)
      refine hK.out _ _ ⟨((HB.out.cell (World.block_lt_of_cell? w _ hw259_0)).trans hw259_0), ((HB.out.cell (World.block_lt_of_cell? w _ hw259_1)).trans hw259_1), ((HB.out.cell (World.block_lt_of_cell? w _ hw259_2)).trans hw259_2), ((HB.out.cell (World.block_lt_of_cell? w _ hw259_3)).trans hw259_3), ((HB.out.cell (World.block_lt_of_cell? w _ hw259_4)).trans hw259_4), ((HB.out.cell (World.block_lt_of_cell? w _ hw259_5)).trans hw259_5), ((HB.out.cell (World.block_lt_of_cell? w _ hw259_6)).trans hw259_6), ((HB.out.cell (World.block_lt_of_cell? w _ hw260_0)).trans hw260_0), ((HB.out.cell (World.block_lt_of_cell? w _ hw260_1)).trans hw260_1), ((HB.out.cell (World.block_lt_of_cell? w _ hw260_2)).trans hw260_2), ((HB.out.cell (World.block_lt_of_cell? w _ hw260_3)).trans hw260_3), ((HB.out.cell (World.block_lt_of_cell? w _ hw260_4)).trans hw260_4), ((HB.out.cell (World.block_lt_of_cell? w _ hw260_5)).trans hw260_5), ((HB.out.cell (World.block_lt_of_cell? w _ hw260_6)).trans hw260_6)⟩ (fun hHeld => ?_)
      clear hK K
      refine norm_ (a' := ?_) ?_ ?_
      rotate_left
      ·
       show Act.put _ (some 25) _ = _
       simp only [Act.put, List.setIfInBounds_toArray, List.set_cons_zero, List.set_cons_succ, i64_w, i32_w]
       rfl
      refine pure_ (i := 9) (N := some 26) (v := ?_) (a' := ?_) #[tb_,tb_,tb_,tb_,tb_,tb_,tb_,tb_,tb_,tb_] rfl rfl (any_of HT_.out (by kernel_rfl)) (fun _ _ _ h => h) (Or.inl ⟨by rfl, ?_⟩) ?_ ?_
      rotate_left
      ·
       intro w'
       go_simp
       with_reducible rfl
      rotate_left
      ·
       simp only [Act.put, List.setIfInBounds_toArray, List.set_cons_zero, List.set_cons_succ, i64_w, i32_w]
       rfl
      refine done_ (done_of HT_.out (by kernel_rfl)) ?_
      try go_wp2
      go_ret
      exact ⟨by first | rfl | (simp [errW_none, errW_some] <;> rfl) | (simp [*, errW_none, errW_some] <;> rfl), by repeat (with_reducible first | exact HB.out | apply bA_ | apply bN_ | apply b1_)⟩
end Go.Proofs.YtfmlamheflbgdaaDoor.PAll
end
