/- For each function of the Go program that is named here: its Lean function, and that Go comes to just its answer. Written by a program of the session out of the translation. -/
import Derived.Test.YtfmlamheflbgdaaDoorQo0
section
namespace Go.Proofs.YtfmlamheflbgdaaDoor.PAll
open Go.RowKit Go.Proofs.YtfmlamheflbgdaaDoorW.PrintWords Go.Proofs.YtfmlamheflbgdaaDoorW.PrintLast Go.Proofs.YtfmlamheflbgdaaDoorW.PrintMore
attribute [local go_sem] max2_int min2_int max_two min_two max_three min_three max_four min_four
set_option linter.unusedVariables false
set_option linter.unusedSimpArgs false
def laws_eqNodeS.l0 : Nat → List (S55) → List (S55) → Int → Option (Bool)
  | 0, _, _, _ => none
  | k + 1, x0, x1, x5 => if x5 < (x0.length : Int) then (if 0 ≤ x5 then (if x5 < (x1.length : Int) then ((laws_eqNode.f ((rd_T55 x0 x5).f0) ((rd_T55 x0 x5).f1) ((rd_T55 x0 x5).f2) ((rd_T55 x0 x5).f3) ((rd_T55 x0 x5).f4) ((rd_T55 x0 x5).f5) ((rd_T55 x0 x5).f6) ((rd_T55 x1 x5).f0) ((rd_T55 x1 x5).f1) ((rd_T55 x1 x5).f2) ((rd_T55 x1 x5).f3) ((rd_T55 x1 x5).f4) ((rd_T55 x1 x5).f5) ((rd_T55 x1 x5).f6)).bind fun t261 => (if t261 = true then (laws_eqNodeS.l0 k x0 x1 (wrap64 (x5 + 1))) else (some false))) else (none)) else (none)) else (some true)
def laws_eqNodeS.f (k : Nat) (l0 : List (S55)) (l1 : List (S55)) : Option (Bool) := if (l0.length : Int) = (l1.length : Int) then (laws_eqNodeS.l0 k l0 l1 0) else (some false)
def laws_eqNodeS.T6 : Bool × List (List Nat × List Nat) := (true, [([], []), ([], []), ([0, 1], [0, 1]), ([2], [2]), ([], []), ([], []), ([4, 5], [4, 5]), ([6], [6]), ([3, 7], [3, 7]), ([8], [8])])
def laws_eqNodeS.B6 : List Nat := [0, 0, 3, 7, 0, 0, 48, 112, 255, 511]
theorem laws_eqNodeS.tab6 : rtab .any (opsOf Tryd.f18 6) = laws_eqNodeS.T6 := by kernel_rfl
theorem laws_eqNodeS.bits6 : waitsOk laws_eqNodeS.T6.2 laws_eqNodeS.B6 = true := by kernel_rfl
set_option maxHeartbeats 8000000 in
set_option maxRecDepth 100000 in
theorem laws_eqNodeS.calls (k : Nat) (A0 : Option Addr) (c0 : Nat) (l0 : List (S55)) (A1 : Option Addr) (c1 : Nat) (l1 : List (S55)) (r : Bool) (w : World) (hr0 : Kd.C k55 w A0 l0.length l0) (hc0 : l0.length ≤ c0) (hr1 : Kd.C k55 w A1 l1.length l1) (hc1 : l1.length ≤ c1) (h : laws_eqNodeS.f k l0 l1 = some r) :
    Calls Tryd.prog 18 #[.slice A0 l0.length c0, .slice A1 l1.length c1] w fun e w' => e = .returned (.bool r) ∧ Below w.heap.size w w' := by
  have hu55 := Tryd.underlying55
  have HR0 := Ad_.mk hr0
  have HC0 := Ad_.mk hc0
  clear hr0 hc0
  have HR1 := Ad_.mk hr1
  have HC1 := Ad_.mk hc1
  clear hr1 hc1
  have HB := Ad_.mk (Below.refl w.heap.size w)
  have H := h
  unfold laws_eqNodeS.f at H
  clear h
  by_cases c3 : (l0.length : Int) = (l1.length : Int)
  rotate_left
  ·
   rw [if_neg c3] at H
   have c3b0 : ((l0.length : Int) == (l1.length : Int)) = false := beq_eq_false_iff_ne.mpr c3
   have c3b1 : ((l0.length : Int) != (l1.length : Int)) = true := bne_iff_ne.mpr c3
   have c3b2 : (l0.length == l1.length) = false := by first | simpa using c3 | (simp at c3 ⊢; omega)
   obtain rfl := Option.some.inj H
   go_enter Tryd.func18, Tryd.ntmps18
   go_wp2
   go_ret
   exact ⟨er_, Bn_ HB.out⟩
  rw [if_pos c3] at H
  have c3b0 : ((l0.length : Int) == (l1.length : Int)) = true := beq_iff_eq.mpr c3
  have c3b1 : ((l0.length : Int) != (l1.length : Int)) = false := bne_eq_false_iff_eq.mpr c3
  have c3b2 : (l0.length == l1.length) = true := by first | simpa using c3 | (simp at c3 ⊢; omega)
  clear c3
  have H' := Ad_.mk H
  clear H
  go_enter Tryd.func18, Tryd.ntmps18
  go_wp2
  go_loopg [5] k (fun kq v5 w' => ∃ (x5_1 : Int), v5 = .int .i64 x5_1 ∧ Ad_ (laws_eqNodeS.l0 kq l0 l1 x5_1 = some r) ∧ Ad_ (kq ≤ k) ∧ Ad_ (Below w.heap.size w w'))
  case atStart => exact ⟨(0), fs_, H', ⟨Nat.le_refl _⟩, ⟨Bn_ HB.out⟩⟩
  case round =>
    clear H'
    try clear p2
    try clear c3b0 c3b1 c3b2
    obtain ⟨x5_1, rfl, HA, HK1, HB⟩ := hrel
    cases gk with
    | zero => exact absurd HA.out (by simp [laws_eqNodeS.l0])
    | succ k1 =>
      have H := HA.out
      clear HA
      simp only [laws_eqNodeS.l0] at H
      by_cases c4 : x5_1 < (l0.length : Int)
      rotate_left
      ·
       rw [if_neg c4] at H
       have c4b0 := decide_eq_false c4
       clear c4
       obtain rfl := Option.some.inj H
       go_wp2
       go_ret
       exact ⟨er_, Bn_ HB.out⟩
      rw [if_pos c4] at H
      have c4b0 := decide_eq_true c4
      clear c4
      by_cases c5 : 0 ≤ x5_1
      rotate_left
      ·
       rw [if_neg c5] at H
       exact absurd H (by simp)
      rw [if_pos c5] at H
      have c5b0 := decide_eq_true c5
      clear c5
      by_cases c6 : x5_1 < (l1.length : Int)
      rotate_left
      ·
       rw [if_neg c6] at H
       exact absurd H (by simp)
      rw [if_pos c6] at H
      have c6b0 := decide_eq_true c6
      clear c6
      replace H := Option.bind_eq_some_iff.mp H
      obtain ⟨t261, A70, H⟩ := H
      try dsimp only at H
      have A7 := Ad_.mk A70
      clear A70
      by_cases c8 : t261 = true
      ·
       subst c8
       have H1 := H
       rw [if_pos rfl] at H1
       clear H
       have H := H1
       clear H1
       have H' := Ad_.mk H
       clear H
       try go_wp2
       replace HB := Ad_.mk (b1_ HB.out)
       have p259 : 0 ≤ (x5_1 : Int) := od_
       have q259 : x5_1 < (l0.length : Int) := od_
       obtain ⟨ad259, e259, hx259_0, hx259_1, hx259_2, hx259_3, hx259_4, hx259_5, hx259_6⟩ := at_T55 HR0.out x5_1 p259 q259
       have hw259_6 := hx259_6
       have hw259_5 := hx259_5
       have hw259_4 := hx259_4
       have hw259_3 := hx259_3
       have hw259_2 := hx259_2
       have hw259_1 := hx259_1
       have hw259_0 := hx259_0
       cases e259
       replace hx259_0 := pB_ HB.out hx259_0
       replace hx259_1 := pB_ HB.out hx259_1
       replace hx259_2 := pB_ HB.out hx259_2
       replace hx259_3 := pB_ HB.out hx259_3
       replace hx259_4 := pB_ HB.out hx259_4
       replace hx259_5 := pB_ HB.out hx259_5
       replace hx259_6 := pB_ HB.out hx259_6
       replace p259 := eq_true p259
       replace q259 := eq_true q259
       have p260 : 0 ≤ (x5_1 : Int) := od_
       have q260 : x5_1 < (l1.length : Int) := od_
       obtain ⟨ad260, e260, hx260_0, hx260_1, hx260_2, hx260_3, hx260_4, hx260_5, hx260_6⟩ := at_T55 HR1.out x5_1 p260 q260
       have hw260_6 := hx260_6
       have hw260_5 := hx260_5
       have hw260_4 := hx260_4
       have hw260_3 := hx260_3
       have hw260_2 := hx260_2
       have hw260_1 := hx260_1
       have hw260_0 := hx260_0
       cases e260
       replace hx260_0 := pB_ HB.out hx260_0
       replace hx260_1 := pB_ HB.out hx260_1
       replace hx260_2 := pB_ HB.out hx260_2
       replace hx260_3 := pB_ HB.out hx260_3
       replace hx260_4 := pB_ HB.out hx260_4
       replace hx260_5 := pB_ HB.out hx260_5
       replace hx260_6 := pB_ HB.out hx260_6
       replace p260 := eq_true p260
       replace q260 := eq_true q260
       refine start_ (n := 10) (S := fun w' => w'.cell? (ad259.add ((x5_1).toNat * 7)) = some (.int .i64 ((rd_T55 l0 x5_1).f0)) ∧ w'.cell? ⟨(ad259.add ((x5_1).toNat * 7)).block, (ad259.add ((x5_1).toNat * 7)).off + 1, none⟩ = some (.int .i64 ((rd_T55 l0 x5_1).f1)) ∧ w'.cell? ⟨(ad259.add ((x5_1).toNat * 7)).block, (ad259.add ((x5_1).toNat * 7)).off + 2, none⟩ = some (.int .i64 ((rd_T55 l0 x5_1).f2)) ∧ w'.cell? ⟨(ad259.add ((x5_1).toNat * 7)).block, (ad259.add ((x5_1).toNat * 7)).off + 3, none⟩ = some (.int .i64 ((rd_T55 l0 x5_1).f3)) ∧ w'.cell? ⟨(ad259.add ((x5_1).toNat * 7)).block, (ad259.add ((x5_1).toNat * 7)).off + 4, none⟩ = some (.int .i64 ((rd_T55 l0 x5_1).f4)) ∧ w'.cell? ⟨(ad259.add ((x5_1).toNat * 7)).block, (ad259.add ((x5_1).toNat * 7)).off + 5, none⟩ = some (.string ((rd_T55 l0 x5_1).f5)) ∧ w'.cell? ⟨(ad259.add ((x5_1).toNat * 7)).block, (ad259.add ((x5_1).toNat * 7)).off + 6, none⟩ = some (.string ((rd_T55 l0 x5_1).f6)) ∧ w'.cell? (ad260.add ((x5_1).toNat * 7)) = some (.int .i64 ((rd_T55 l1 x5_1).f0)) ∧ w'.cell? ⟨(ad260.add ((x5_1).toNat * 7)).block, (ad260.add ((x5_1).toNat * 7)).off + 1, none⟩ = some (.int .i64 ((rd_T55 l1 x5_1).f1)) ∧ w'.cell? ⟨(ad260.add ((x5_1).toNat * 7)).block, (ad260.add ((x5_1).toNat * 7)).off + 2, none⟩ = some (.int .i64 ((rd_T55 l1 x5_1).f2)) ∧ w'.cell? ⟨(ad260.add ((x5_1).toNat * 7)).block, (ad260.add ((x5_1).toNat * 7)).off + 3, none⟩ = some (.int .i64 ((rd_T55 l1 x5_1).f3)) ∧ w'.cell? ⟨(ad260.add ((x5_1).toNat * 7)).block, (ad260.add ((x5_1).toNat * 7)).off + 4, none⟩ = some (.int .i64 ((rd_T55 l1 x5_1).f4)) ∧ w'.cell? ⟨(ad260.add ((x5_1).toNat * 7)).block, (ad260.add ((x5_1).toNat * 7)).off + 5, none⟩ = some (.string ((rd_T55 l1 x5_1).f5)) ∧ w'.cell? ⟨(ad260.add ((x5_1).toNat * 7)).block, (ad260.add ((x5_1).toNat * 7)).off + 6, none⟩ = some (.string ((rd_T55 l1 x5_1).f6))) (ds := []) #[Z,Z,Z,Z,Z,Z,Z,Z,Z,Z] (by kernel_rfl) rfl rfl ⟨((HB.out.cell (World.block_lt_of_cell? w _ hw259_0)).trans hw259_0), ((HB.out.cell (World.block_lt_of_cell? w _ hw259_1)).trans hw259_1), ((HB.out.cell (World.block_lt_of_cell? w _ hw259_2)).trans hw259_2), ((HB.out.cell (World.block_lt_of_cell? w _ hw259_3)).trans hw259_3), ((HB.out.cell (World.block_lt_of_cell? w _ hw259_4)).trans hw259_4), ((HB.out.cell (World.block_lt_of_cell? w _ hw259_5)).trans hw259_5), ((HB.out.cell (World.block_lt_of_cell? w _ hw259_6)).trans hw259_6), ((HB.out.cell (World.block_lt_of_cell? w _ hw260_0)).trans hw260_0), ((HB.out.cell (World.block_lt_of_cell? w _ hw260_1)).trans hw260_1), ((HB.out.cell (World.block_lt_of_cell? w _ hw260_2)).trans hw260_2), ((HB.out.cell (World.block_lt_of_cell? w _ hw260_3)).trans hw260_3), ((HB.out.cell (World.block_lt_of_cell? w _ hw260_4)).trans hw260_4), ((HB.out.cell (World.block_lt_of_cell? w _ hw260_5)).trans hw260_5), ((HB.out.cell (World.block_lt_of_cell? w _ hw260_6)).trans hw260_6)⟩ (fun hHeld => ?_); refine with_tabW laws_eqNodeS.tab6 laws_eqNodeS.bits6 (fun HT_ HW_ => ?_)
       generalize wr.drew = w9 at HB hx259_0 hx259_1 hx259_2 hx259_3 hx259_4 hx259_5 hx259_6 hx260_0 hx260_1 hx260_2 hx260_3 hx260_4 hx260_5 hx260_6 hHeld ⊢
       refine pu_ (i := 0) (N := some 17) #[Y,Z,Z,Z,Z,Z,Z,Z,Z,Z] ?_
       refine pu_ (i := 1) (N := some 18) #[Y,Y,Z,Z,Z,Z,Z,Z,Z,Z] ?_
       refine pu_ (i := 2) (N := some 19) #[Y,Y,Y,Z,Z,Z,Z,Z,Z,Z] ?_
       refine pu_ (i := 4) (N := some 21) #[Y,Y,Y,Z,Y,Z,Z,Z,Z,Z] ?_
       refine pu_ (i := 5) (N := some 22) #[Y,Y,Y,Z,Y,Y,Z,Z,Z,Z] ?_
       refine pu_ (i := 6) (N := some 23) #[Y,Y,Y,Z,Y,Y,Y,Z,Z,Z] ?_
       refine tk_ (i := 3) (N := some 20) (v := ?_) (a' := ?_) #[Y,Y,Y,Y,Y,Y,Y,Z,Z,Z] ?_ hHeld ?_ ?_
       rotate_left
       ·
        rintro w' ⟨s0, s1, s2, s3, s4, s5, s6, s7, s8, s9, s10, s11, s12, s13⟩
        go_simp
        with_reducible rfl
       rotate_left
       ·
        simp only [Act.put, List.setIfInBounds_toArray, List.set_cons_zero, List.set_cons_succ, i64_w, i32_w]
        rfl
       refine tk_ (i := 7) (N := some 24) (v := ?_) (a' := ?_) #[Y,Y,Y,Y,Y,Y,Y,Y,Z,Z] ?_ hHeld ?_ ?_
       rotate_left
       ·
        rintro w' ⟨s0, s1, s2, s3, s4, s5, s6, s7, s8, s9, s10, s11, s12, s13⟩
        go_simp
        with_reducible rfl
       rotate_left
       ·
        simp only [Act.put, List.setIfInBounds_toArray, List.set_cons_zero, List.set_cons_succ, i64_w, i32_w]
        rfl
       refine one_ (i := 8) (N := some 25) #[Y,Y,Y,Y,Y,Y,Y,Y,Y,Z] rfl rfl (one_of HT_.out (by kernel_rfl)) (by decide) (fun K hK => ?_)
       refine goes_ Tryd.func67 (by kernel_rfl) rfl #[.agg #[.int .i64 ((rd_T55 l0 x5_1).f0), .int .i64 ((rd_T55 l0 x5_1).f1), .int .i64 ((rd_T55 l0 x5_1).f2), .int .i64 ((rd_T55 l0 x5_1).f3), .int .i64 ((rd_T55 l0 x5_1).f4), .string ((rd_T55 l0 x5_1).f5), .string ((rd_T55 l0 x5_1).f6)], .agg #[.int .i64 ((rd_T55 l1 x5_1).f0), .int .i64 ((rd_T55 l1 x5_1).f1), .int .i64 ((rd_T55 l1 x5_1).f2), .int .i64 ((rd_T55 l1 x5_1).f3), .int .i64 ((rd_T55 l1 x5_1).f4), .string ((rd_T55 l1 x5_1).f5), .string ((rd_T55 l1 x5_1).f6)]] (by rfl) rfl rfl (by (try simp only [List.map_toArray, List.map_cons, List.map_nil]); first | done | rfl | (simp only [List.length_drop, List.length_take]; rfl)) ?_
       with_reducible refine (laws_eqNode.calls ((rd_T55 l0 x5_1).f0) ((rd_T55 l0 x5_1).f1) ((rd_T55 l0 x5_1).f2) ((rd_T55 l0 x5_1).f3) ((rd_T55 l0 x5_1).f4) ((rd_T55 l0 x5_1).f5) ((rd_T55 l0 x5_1).f6) ((rd_T55 l1 x5_1).f0) ((rd_T55 l1 x5_1).f1) ((rd_T55 l1 x5_1).f2) ((rd_T55 l1 x5_1).f3) ((rd_T55 l1 x5_1).f4) ((rd_T55 l1 x5_1).f5) ((rd_T55 l1 x5_1).f6) true _ A7.out).mono ?_
       rintro e w10 ⟨rfl, hb⟩
       refine ⟨_, rfl, ?_⟩
       replace HB := Ad_.mk (bQ_ HB.out hb)
       (try clear hb)
       (try clear hb2)
       (try clear hk)
       (try clear hi)
       refine hK.out _ _ ⟨((HB.out.cell (World.block_lt_of_cell? w _ hw259_0)).trans hw259_0), ((HB.out.cell (World.block_lt_of_cell? w _ hw259_1)).trans hw259_1), ((HB.out.cell (World.block_lt_of_cell? w _ hw259_2)).trans hw259_2), ((HB.out.cell (World.block_lt_of_cell? w _ hw259_3)).trans hw259_3), ((HB.out.cell (World.block_lt_of_cell? w _ hw259_4)).trans hw259_4), ((HB.out.cell (World.block_lt_of_cell? w _ hw259_5)).trans hw259_5), ((HB.out.cell (World.block_lt_of_cell? w _ hw259_6)).trans hw259_6), ((HB.out.cell (World.block_lt_of_cell? w _ hw260_0)).trans hw260_0), ((HB.out.cell (World.block_lt_of_cell? w _ hw260_1)).trans hw260_1), ((HB.out.cell (World.block_lt_of_cell? w _ hw260_2)).trans hw260_2), ((HB.out.cell (World.block_lt_of_cell? w _ hw260_3)).trans hw260_3), ((HB.out.cell (World.block_lt_of_cell? w _ hw260_4)).trans hw260_4), ((HB.out.cell (World.block_lt_of_cell? w _ hw260_5)).trans hw260_5), ((HB.out.cell (World.block_lt_of_cell? w _ hw260_6)).trans hw260_6)⟩ (fun hHeld => ?_)
       clear hK K
       refine norm_ (a' := ?_) ?_ ?_
       rotate_left
       ·
        show Act.put _ (some 25) _ = _
        simp only [Act.put, List.setIfInBounds_toArray, List.set_cons_zero, List.set_cons_succ, i64_w, i32_w]
        rfl
       refine pu_ (i := 9) (N := some 26) #[Y,Y,Y,Y,Y,Y,Y,Y,Y,Y] ?_
       refine done_ (done_of HT_.out (by kernel_rfl)) ?_
       try go_wp2
       go_roundg k1
       case measure => have := HK1.out; omega
       case rel => exact ⟨(wrap64 (x5_1 + 1)), fs_, H', ⟨by have := HK1.out; omega⟩, ⟨Bn_ HB.out⟩⟩
      replace c8 := Bool.eq_false_iff.mpr c8
      subst c8
      have H1 : (some false) = some r := by rw [if_neg (show ¬ (false = true) by decide)] at H; exact H
      clear H
      have H := H1
      clear H1
      obtain rfl := Option.some.inj H
      try go_wp2
      replace HB := Ad_.mk (b1_ HB.out)
      have p259 : 0 ≤ (x5_1 : Int) := od_
      have q259 : x5_1 < (l0.length : Int) := od_
      obtain ⟨ad259, e259, hx259_0, hx259_1, hx259_2, hx259_3, hx259_4, hx259_5, hx259_6⟩ := at_T55 HR0.out x5_1 p259 q259
      have hw259_6 := hx259_6
      have hw259_5 := hx259_5
      have hw259_4 := hx259_4
      have hw259_3 := hx259_3
      have hw259_2 := hx259_2
      have hw259_1 := hx259_1
      have hw259_0 := hx259_0
      cases e259
      replace hx259_0 := pB_ HB.out hx259_0
      replace hx259_1 := pB_ HB.out hx259_1
      replace hx259_2 := pB_ HB.out hx259_2
      replace hx259_3 := pB_ HB.out hx259_3
      replace hx259_4 := pB_ HB.out hx259_4
      replace hx259_5 := pB_ HB.out hx259_5
      replace hx259_6 := pB_ HB.out hx259_6
      replace p259 := eq_true p259
      replace q259 := eq_true q259
      have p260 : 0 ≤ (x5_1 : Int) := od_
      have q260 : x5_1 < (l1.length : Int) := od_
      obtain ⟨ad260, e260, hx260_0, hx260_1, hx260_2, hx260_3, hx260_4, hx260_5, hx260_6⟩ := at_T55 HR1.out x5_1 p260 q260
      have hw260_6 := hx260_6
      have hw260_5 := hx260_5
      have hw260_4 := hx260_4
      have hw260_3 := hx260_3
      have hw260_2 := hx260_2
      have hw260_1 := hx260_1
      have hw260_0 := hx260_0
      cases e260
      replace hx260_0 := pB_ HB.out hx260_0
      replace hx260_1 := pB_ HB.out hx260_1
      replace hx260_2 := pB_ HB.out hx260_2
      replace hx260_3 := pB_ HB.out hx260_3
      replace hx260_4 := pB_ HB.out hx260_4
      replace hx260_5 := pB_ HB.out hx260_5
      replace hx260_6 := pB_ HB.out hx260_6
      replace p260 := eq_true p260
      replace q260 := eq_true q260
      refine start_ (n := 10) (S := fun w' => w'.cell? (ad259.add ((x5_1).toNat * 7)) = some (.int .i64 ((rd_T55 l0 x5_1).f0)) ∧ w'.cell? ⟨(ad259.add ((x5_1).toNat * 7)).block, (ad259.add ((x5_1).toNat * 7)).off + 1, none⟩ = some (.int .i64 ((rd_T55 l0 x5_1).f1)) ∧ w'.cell? ⟨(ad259.add ((x5_1).toNat * 7)).block, (ad259.add ((x5_1).toNat * 7)).off + 2, none⟩ = some (.int .i64 ((rd_T55 l0 x5_1).f2)) ∧ w'.cell? ⟨(ad259.add ((x5_1).toNat * 7)).block, (ad259.add ((x5_1).toNat * 7)).off + 3, none⟩ = some (.int .i64 ((rd_T55 l0 x5_1).f3)) ∧ w'.cell? ⟨(ad259.add ((x5_1).toNat * 7)).block, (ad259.add ((x5_1).toNat * 7)).off + 4, none⟩ = some (.int .i64 ((rd_T55 l0 x5_1).f4)) ∧ w'.cell? ⟨(ad259.add ((x5_1).toNat * 7)).block, (ad259.add ((x5_1).toNat * 7)).off + 5, none⟩ = some (.string ((rd_T55 l0 x5_1).f5)) ∧ w'.cell? ⟨(ad259.add ((x5_1).toNat * 7)).block, (ad259.add ((x5_1).toNat * 7)).off + 6, none⟩ = some (.string ((rd_T55 l0 x5_1).f6)) ∧ w'.cell? (ad260.add ((x5_1).toNat * 7)) = some (.int .i64 ((rd_T55 l1 x5_1).f0)) ∧ w'.cell? ⟨(ad260.add ((x5_1).toNat * 7)).block, (ad260.add ((x5_1).toNat * 7)).off + 1, none⟩ = some (.int .i64 ((rd_T55 l1 x5_1).f1)) ∧ w'.cell? ⟨(ad260.add ((x5_1).toNat * 7)).block, (ad260.add ((x5_1).toNat * 7)).off + 2, none⟩ = some (.int .i64 ((rd_T55 l1 x5_1).f2)) ∧ w'.cell? ⟨(ad260.add ((x5_1).toNat * 7)).block, (ad260.add ((x5_1).toNat * 7)).off + 3, none⟩ = some (.int .i64 ((rd_T55 l1 x5_1).f3)) ∧ w'.cell? ⟨(ad260.add ((x5_1).toNat * 7)).block, (ad260.add ((x5_1).toNat * 7)).off + 4, none⟩ = some (.int .i64 ((rd_T55 l1 x5_1).f4)) ∧ w'.cell? ⟨(ad260.add ((x5_1).toNat * 7)).block, (ad260.add ((x5_1).toNat * 7)).off + 5, none⟩ = some (.string ((rd_T55 l1 x5_1).f5)) ∧ w'.cell? ⟨(ad260.add ((x5_1).toNat * 7)).block, (ad260.add ((x5_1).toNat * 7)).off + 6, none⟩ = some (.string ((rd_T55 l1 x5_1).f6))) (ds := []) #[Z,Z,Z,Z,Z,Z,Z,Z,Z,Z] (by kernel_rfl) rfl rfl ⟨((HB.out.cell (World.block_lt_of_cell? w _ hw259_0)).trans hw259_0), ((HB.out.cell (World.block_lt_of_cell? w _ hw259_1)).trans hw259_1), ((HB.out.cell (World.block_lt_of_cell? w _ hw259_2)).trans hw259_2), ((HB.out.cell (World.block_lt_of_cell? w _ hw259_3)).trans hw259_3), ((HB.out.cell (World.block_lt_of_cell? w _ hw259_4)).trans hw259_4), ((HB.out.cell (World.block_lt_of_cell? w _ hw259_5)).trans hw259_5), ((HB.out.cell (World.block_lt_of_cell? w _ hw259_6)).trans hw259_6), ((HB.out.cell (World.block_lt_of_cell? w _ hw260_0)).trans hw260_0), ((HB.out.cell (World.block_lt_of_cell? w _ hw260_1)).trans hw260_1), ((HB.out.cell (World.block_lt_of_cell? w _ hw260_2)).trans hw260_2), ((HB.out.cell (World.block_lt_of_cell? w _ hw260_3)).trans hw260_3), ((HB.out.cell (World.block_lt_of_cell? w _ hw260_4)).trans hw260_4), ((HB.out.cell (World.block_lt_of_cell? w _ hw260_5)).trans hw260_5), ((HB.out.cell (World.block_lt_of_cell? w _ hw260_6)).trans hw260_6)⟩ (fun hHeld => ?_); refine with_tabW laws_eqNodeS.tab6 laws_eqNodeS.bits6 (fun HT_ HW_ => ?_)
      generalize wr.drew = w11 at HB hx259_0 hx259_1 hx259_2 hx259_3 hx259_4 hx259_5 hx259_6 hx260_0 hx260_1 hx260_2 hx260_3 hx260_4 hx260_5 hx260_6 hHeld ⊢
      refine pu_ (i := 0) (N := some 17) #[Y,Z,Z,Z,Z,Z,Z,Z,Z,Z] ?_
      refine pu_ (i := 1) (N := some 18) #[Y,Y,Z,Z,Z,Z,Z,Z,Z,Z] ?_
      refine pu_ (i := 2) (N := some 19) #[Y,Y,Y,Z,Z,Z,Z,Z,Z,Z] ?_
      refine pu_ (i := 4) (N := some 21) #[Y,Y,Y,Z,Y,Z,Z,Z,Z,Z] ?_
      refine pu_ (i := 5) (N := some 22) #[Y,Y,Y,Z,Y,Y,Z,Z,Z,Z] ?_
      refine pu_ (i := 6) (N := some 23) #[Y,Y,Y,Z,Y,Y,Y,Z,Z,Z] ?_
      refine tk_ (i := 3) (N := some 20) (v := ?_) (a' := ?_) #[Y,Y,Y,Y,Y,Y,Y,Z,Z,Z] ?_ hHeld ?_ ?_
      rotate_left
      ·
       rintro w' ⟨s0, s1, s2, s3, s4, s5, s6, s7, s8, s9, s10, s11, s12, s13⟩
       go_simp
       with_reducible rfl
      rotate_left
      ·
       simp only [Act.put, List.setIfInBounds_toArray, List.set_cons_zero, List.set_cons_succ, i64_w, i32_w]
       rfl
      refine tk_ (i := 7) (N := some 24) (v := ?_) (a' := ?_) #[Y,Y,Y,Y,Y,Y,Y,Y,Z,Z] ?_ hHeld ?_ ?_
      rotate_left
      ·
       rintro w' ⟨s0, s1, s2, s3, s4, s5, s6, s7, s8, s9, s10, s11, s12, s13⟩
       go_simp
       with_reducible rfl
      rotate_left
      ·
       simp only [Act.put, List.setIfInBounds_toArray, List.set_cons_zero, List.set_cons_succ, i64_w, i32_w]
       rfl
      refine one_ (i := 8) (N := some 25) #[Y,Y,Y,Y,Y,Y,Y,Y,Y,Z] rfl rfl (one_of HT_.out (by kernel_rfl)) (by decide) (fun K hK => ?_)
      refine goes_ Tryd.func67 (by kernel_rfl) rfl #[.agg #[.int .i64 ((rd_T55 l0 x5_1).f0), .int .i64 ((rd_T55 l0 x5_1).f1), .int .i64 ((rd_T55 l0 x5_1).f2), .int .i64 ((rd_T55 l0 x5_1).f3), .int .i64 ((rd_T55 l0 x5_1).f4), .string ((rd_T55 l0 x5_1).f5), .string ((rd_T55 l0 x5_1).f6)], .agg #[.int .i64 ((rd_T55 l1 x5_1).f0), .int .i64 ((rd_T55 l1 x5_1).f1), .int .i64 ((rd_T55 l1 x5_1).f2), .int .i64 ((rd_T55 l1 x5_1).f3), .int .i64 ((rd_T55 l1 x5_1).f4), .string ((rd_T55 l1 x5_1).f5), .string ((rd_T55 l1 x5_1).f6)]] (by rfl) rfl rfl (by (try simp only [List.map_toArray, List.map_cons, List.map_nil]); first | done | rfl | (simp only [List.length_drop, List.length_take]; rfl)) ?_
      with_reducible refine (laws_eqNode.calls ((rd_T55 l0 x5_1).f0) ((rd_T55 l0 x5_1).f1) ((rd_T55 l0 x5_1).f2) ((rd_T55 l0 x5_1).f3) ((rd_T55 l0 x5_1).f4) ((rd_T55 l0 x5_1).f5) ((rd_T55 l0 x5_1).f6) ((rd_T55 l1 x5_1).f0) ((rd_T55 l1 x5_1).f1) ((rd_T55 l1 x5_1).f2) ((rd_T55 l1 x5_1).f3) ((rd_T55 l1 x5_1).f4) ((rd_T55 l1 x5_1).f5) ((rd_T55 l1 x5_1).f6) false _ A7.out).mono ?_
      rintro e w12 ⟨rfl, hb⟩
      refine ⟨_, rfl, ?_⟩
      replace HB := Ad_.mk (bQ_ HB.out hb)
      (try clear hb)
      (try clear hb2)
      (try clear hk)
      (try clear hi)
      refine hK.out _ _ ⟨((HB.out.cell (World.block_lt_of_cell? w _ hw259_0)).trans hw259_0), ((HB.out.cell (World.block_lt_of_cell? w _ hw259_1)).trans hw259_1), ((HB.out.cell (World.block_lt_of_cell? w _ hw259_2)).trans hw259_2), ((HB.out.cell (World.block_lt_of_cell? w _ hw259_3)).trans hw259_3), ((HB.out.cell (World.block_lt_of_cell? w _ hw259_4)).trans hw259_4), ((HB.out.cell (World.block_lt_of_cell? w _ hw259_5)).trans hw259_5), ((HB.out.cell (World.block_lt_of_cell? w _ hw259_6)).trans hw259_6), ((HB.out.cell (World.block_lt_of_cell? w _ hw260_0)).trans hw260_0), ((HB.out.cell (World.block_lt_of_cell? w _ hw260_1)).trans hw260_1), ((HB.out.cell (World.block_lt_of_cell? w _ hw260_2)).trans hw260_2), ((HB.out.cell (World.block_lt_of_cell? w _ hw260_3)).trans hw260_3), ((HB.out.cell (World.block_lt_of_cell? w _ hw260_4)).trans hw260_4), ((HB.out.cell (World.block_lt_of_cell? w _ hw260_5)).trans hw260_5), ((HB.out.cell (World.block_lt_of_cell? w _ hw260_6)).trans hw260_6)⟩ (fun hHeld => ?_)
      clear hK K
      refine norm_ (a' := ?_) ?_ ?_
      rotate_left
      ·
       show Act.put _ (some 25) _ = _
       simp only [Act.put, List.setIfInBounds_toArray, List.set_cons_zero, List.set_cons_succ, i64_w, i32_w]
       rfl
      refine pu_ (i := 9) (N := some 26) #[Y,Y,Y,Y,Y,Y,Y,Y,Y,Y] ?_
      refine done_ (done_of HT_.out (by kernel_rfl)) ?_
      try go_wp2
      go_ret
      exact ⟨er_, Bn_ HB.out⟩
end Go.Proofs.YtfmlamheflbgdaaDoor.PAll
end
section
namespace Go.Proofs.YtfmlamheflbgdaaDoor.PAll
open Go.RowKit Go.Proofs.YtfmlamheflbgdaaDoorW.PrintWords Go.Proofs.YtfmlamheflbgdaaDoorW.PrintLast Go.Proofs.YtfmlamheflbgdaaDoorW.PrintMore
attribute [local go_sem] max2_int min2_int max_two min_two max_three min_three max_four min_four
set_option linter.unusedVariables false
set_option linter.unusedSimpArgs false
def laws_markText.l0 : Nat → Int → ByteArray → Option (ByteArray)
  | 0, _, _ => none
  | k + 1, x0, x3 => if x0 > 0 then ((some (([(wrap64 (48 + (Int.tmod x0 10))) % 256] : List Int) : List Int)).bind fun y339 => (if (strOfNums y339).size + x3.size ≤ 9223372036854775807 then (laws_markText.l0 k (wrap64 (Int.tdiv x0 10)) ((strOfNums y339) ++ x3)) else (none))) else (if 1 + x3.size ≤ 9223372036854775807 then (some ((⟨#[109]⟩ : ByteArray) ++ x3)) else (none))
def laws_markText.f (k : Nat) (a0 : Int) : Option (ByteArray) := if a0 ≤ 0 then (some (⟨#[109, 48]⟩ : ByteArray)) else (laws_markText.l0 k a0 (⟨#[]⟩ : ByteArray))
set_option maxHeartbeats 8000000 in
set_option maxRecDepth 100000 in
theorem laws_markText.calls (k : Nat) (a0 : Int) (r : ByteArray) (w : World) (h : laws_markText.f k a0 = some r) :
    Calls Tryd.prog 76 #[.int .i64 a0] w fun e w' => e = .returned (.string r) ∧ Below w.heap.size w w' := by
  have HB := Ad_.mk (Below.refl w.heap.size w)
  have H := h
  unfold laws_markText.f at H
  clear h
  by_cases c2 : a0 ≤ 0
  ·
   rw [if_pos c2] at H
   have c2b0 := decide_eq_true c2
   clear c2
   obtain rfl := Option.some.inj H
   go_enter Tryd.func76, Tryd.ntmps76
   go_wp2
   go_ret
   exact ⟨er_, Bn_ HB.out⟩
  rw [if_neg c2] at H
  have c2b0 := decide_eq_false c2
  clear c2
  have H' := Ad_.mk H
  clear H
  go_enter Tryd.func76, Tryd.ntmps76
  go_wp2
  go_loopg [0, 3] k (fun kq v0 v3 w' => ∃ (x0_1 : Int) (x3_1 : ByteArray), v0 = .int .i64 x0_1 ∧ v3 = .string x3_1 ∧ Ad_ (laws_markText.l0 kq x0_1 x3_1 = some r) ∧ Ad_ (kq ≤ k) ∧ Ad_ (Below w.heap.size w w'))
  case atStart => exact ⟨(a0), ((⟨#[]⟩ : ByteArray)), fs_, fs_, H', ⟨Nat.le_refl _⟩, ⟨Bn_ HB.out⟩⟩
  case round =>
    clear H'
    try clear c2b0
    try clear p2
    obtain ⟨x0_1, x3_1, rfl, rfl, HA, HK1, HB⟩ := hrel
    cases gk with
    | zero => exact absurd HA.out (by simp [laws_markText.l0])
    | succ k1 =>
      have H := HA.out
      clear HA
      simp only [laws_markText.l0] at H
      by_cases c3 : x0_1 > 0
      rotate_left
      ·
       rw [if_neg c3] at H
       have c3b0 := decide_eq_false c3
       clear c3
       by_cases c8 : 1 + x3_1.size ≤ 9223372036854775807
       rotate_left
       ·
        rw [if_neg c8] at H
        exact absurd H (by simp)
       rw [if_pos c8] at H
       have c8b0 := eq_true c8
       have c8b1 := decide_eq_true c8
       try have c8b2 : (9223372036854775807 < 1 + x3_1.size) = False := eq_false (Nat.not_lt.2 c8)
       obtain rfl := Option.some.inj H
       go_wp2
       go_ret
       exact ⟨er_, Bn_ HB.out⟩
      rw [if_pos c3] at H
      have c3b0 := decide_eq_true c3
      clear c3
      obtain ⟨y339, hy339⟩ : ∃ y_ : List Int, y_ = (([(wrap64 (48 + (Int.tmod x0_1 10))) % 256] : List Int)) := ⟨_, rfl⟩
      replace H : (if (strOfNums y339).size + x3_1.size ≤ 9223372036854775807 then (laws_markText.l0 k1 (wrap64 (Int.tdiv x0_1 10)) ((strOfNums y339) ++ x3_1)) else (none)) = some r := by first | (rw [hy339]; with_reducible exact H) | (have H2_ := (Option.bind_some _ _).symm.trans H; rw [hy339]; with_reducible exact H2_) | (have H2_ := (Option.bind_some _ _).symm.trans H; with_reducible exact H2_) | with_reducible exact H | (rw [hy339]; exact H) | exact H
      have Ny339 := Ad_.mk hy339
      clear hy339
      by_cases c4 : (strOfNums y339).size + x3_1.size ≤ 9223372036854775807
      rotate_left
      ·
       rw [if_neg c4] at H
       exact absurd H (by simp)
      rw [if_pos c4] at H
      have c4b0 := eq_true c4
      have c4b1 := decide_eq_true c4
      try have c4b2 : (9223372036854775807 < (strOfNums y339).size + x3_1.size) = False := eq_false (Nat.not_lt.2 c4)
      have H' := Ad_.mk H
      clear H
      go_wp2_with (first | ((with_reducible refine gD_ (N := 12) rfl ?_); refine Kd.R_lit (Kd.int .u8) _ 5 ?hg (N := 12) ?hd (xs := ([(wrap64 (48 + (Int.tmod x0_1 10))) % 256] : List Int)) (inner := [.int .u8 ((wrap64 (48 + (Int.tmod x0_1 10))) % 256)]) (ok := fun _ => True) (okp := fun _ => True) ?hr ?hp (fun _ hk => hk) trivial (Below.refl _ _) (Nat.le_refl _) (by simp) ?_; (case hd => rfl); (case hg => rfl); (case hr => first | (go_simp; done) | (go_simp; rfl)); (case hp => exact (Reps.one (show Kd.M (Kd.int .u8) _ _ _ ((wrap64 (48 + (Int.tmod x0_1 10))) % 256) [.int .u8 ((wrap64 (48 + (Int.tmod x0_1 10))) % 256)] from rfl) (Reps.none _ _))); intro v340 w5 ho6 hb hg_ hnew_; clear hg_ hnew_; (first | rw [← Ny339.out] at ho6 | (simp only [Int.reduceToNat] at ho6; rw [← Ny339.out] at ho6)); have n0_ := Ad_.mk (Kd.R_lower ho6 (bZ_ (Bn_ HB.out))); have n1_ := Ad_.mk (bQ_ HB.out hb); clear HB; have HO341 := n0_; have HB := n1_; clear n0_ n1_; clear hb ho6; have hcv7 := own_string (P := Tryd.prog) Tryd.underlying46 Tryd.underlying5 Tryd.underlying9 (Kd.own_of_R HO341.out)))
      go_roundg k1
      case measure => have := HK1.out; omega
      case rel => exact ⟨(wrap64 (Int.tdiv x0_1 10)), ((strOfNums y339) ++ x3_1), fs_, fs_, H', ⟨by have := HK1.out; omega⟩, ⟨Bn_ HB.out⟩⟩
def laws_markNodeS.l0 : Nat → List (S55) → Int → Int → Option (Int × (List (S55)))
  | 0, _, _, _ => none
  | k + 1, x0, x1, x5 => if x5 < (x0.length : Int) then (if 0 ≤ x5 then ((some (x0.set (x5 : Int).toNat (⟨x1, (rd_T55 x0 x5).f1, (rd_T55 x0 x5).f2, (rd_T55 x0 x5).f3, (rd_T55 x0 x5).f4, (rd_T55 x0 x5).f5, (rd_T55 x0 x5).f6⟩ : S55) : List (S55))).bind fun y342 => ((some (y342.set (x5 : Int).toNat (⟨(rd_T55 y342 x5).f0, wrap64 (x1 + 1), (rd_T55 y342 x5).f2, (rd_T55 y342 x5).f3, (rd_T55 y342 x5).f4, (rd_T55 y342 x5).f5, (rd_T55 y342 x5).f6⟩ : S55) : List (S55))).bind fun y343 => ((some (y343.set (x5 : Int).toNat (⟨(rd_T55 y343 x5).f0, (rd_T55 y343 x5).f1, wrap64 ((wrap64 (x1 + 1)) + 1), (rd_T55 y343 x5).f3, (rd_T55 y343 x5).f4, (rd_T55 y343 x5).f5, (rd_T55 y343 x5).f6⟩ : S55) : List (S55))).bind fun y344 => ((some (y344.set (x5 : Int).toNat (⟨(rd_T55 y344 x5).f0, (rd_T55 y344 x5).f1, (rd_T55 y344 x5).f2, wrap64 ((wrap64 ((wrap64 (x1 + 1)) + 1)) + 1), (rd_T55 y344 x5).f4, (rd_T55 y344 x5).f5, (rd_T55 y344 x5).f6⟩ : S55) : List (S55))).bind fun y345 => ((some (y345.set (x5 : Int).toNat (⟨(rd_T55 y345 x5).f0, (rd_T55 y345 x5).f1, (rd_T55 y345 x5).f2, (rd_T55 y345 x5).f3, wrap64 ((wrap64 ((wrap64 ((wrap64 (x1 + 1)) + 1)) + 1)) + 1), (rd_T55 y345 x5).f5, (rd_T55 y345 x5).f6⟩ : S55) : List (S55))).bind fun y346 => ((laws_markText.f k (wrap64 ((wrap64 ((wrap64 ((wrap64 ((wrap64 (x1 + 1)) + 1)) + 1)) + 1)) + 1))).bind fun t347 => ((some (y346.set (x5 : Int).toNat (⟨(rd_T55 y346 x5).f0, (rd_T55 y346 x5).f1, (rd_T55 y346 x5).f2, (rd_T55 y346 x5).f3, (rd_T55 y346 x5).f4, t347, (rd_T55 y346 x5).f6⟩ : S55) : List (S55))).bind fun y348 => ((laws_markText.f k (wrap64 ((wrap64 ((wrap64 ((wrap64 ((wrap64 ((wrap64 (x1 + 1)) + 1)) + 1)) + 1)) + 1)) + 1))).bind fun t349 => (laws_markNodeS.l0 k (y348.set (x5 : Int).toNat (⟨(rd_T55 y348 x5).f0, (rd_T55 y348 x5).f1, (rd_T55 y348 x5).f2, (rd_T55 y348 x5).f3, (rd_T55 y348 x5).f4, (rd_T55 y348 x5).f5, t349⟩ : S55)) (wrap64 ((wrap64 ((wrap64 ((wrap64 ((wrap64 ((wrap64 ((wrap64 (x1 + 1)) + 1)) + 1)) + 1)) + 1)) + 1)) + 1)) (wrap64 (x5 + 1))))))))))) else (none)) else (some (x1, x0))
def laws_markNodeS.f (k : Nat) (l0 : List (S55)) (a1 : Int) : Option (Int × (List (S55))) := laws_markNodeS.l0 k l0 a1 0
set_option maxHeartbeats 8000000 in
set_option maxRecDepth 100000 in
theorem laws_markNodeS.calls (k : Nat) (P0_ : Nat → Prop) (u9000_ : Value) (l0 : List (S55)) (a1 : Int) (r1 : Int) (r2 : List (S55)) (w0 w : World) (hB : Below w0.heap.size w0 w) (ho0 : Kd.R k55 55 w w0.heap.size P0_ u9000_ l0) (h : laws_markNodeS.f k l0 a1 = some (r1, r2)) :
    Calls Tryd.prog 24 #[u9000_, .int .i64 a1] w fun e w' => e = .returned (.int .i64 r1) ∧ Kd.R k55 55 w' w0.heap.size (fun k_ => (P0_ k_ ∨ w.heap.size ≤ k_)) u9000_ r2 ∧ Below w0.heap.size w0 w' ∧ Kept w w' (fun k_ => P0_ k_) := by
  have HO0 := Ad_.mk (show Kd.R k55 55 w w0.heap.size (fun k_ => (P0_ k_ ∨ w.heap.size ≤ k_)) u9000_ l0 from Kd.R_mono ho0 (fun k_ hk => (.inl hk)))
  have HK := Ad_.mk (Kept.refl w (fun k_ => P0_ k_))
  have HW0 := Ad_.mk hB.size
  have HB := Ad_.mk hB
  clear hB
  have H : (laws_markNodeS.l0 k l0 a1 0) = some (r1, r2) := h
  clear h
  have H' := Ad_.mk H
  clear H
  go_enter Tryd.func24, Tryd.ntmps24
  go_wp2
  go_loopg [1, 5] k (fun kq v1 v5 w' => ∃ (x0_1 : List (S55)) (x1_1 : Int) (x5_1 : Int), v1 = .int .i64 x1_1 ∧ v5 = .int .i64 x5_1 ∧ Ad_ (laws_markNodeS.l0 kq x0_1 x1_1 x5_1 = some (r1, r2)) ∧ Ad_ (kq ≤ k) ∧ Ad_ (Kd.R k55 55 w' w0.heap.size (fun k_ => (P0_ k_ ∨ w.heap.size ≤ k_)) u9000_ x0_1) ∧ Ad_ (Kept w w' (fun k_ => P0_ k_)) ∧ Ad_ (Below w0.heap.size w0 w'))
  case atStart => exact ⟨(l0), (a1), (0), fs_, fs_, H', ⟨Nat.le_refl _⟩, ⟨Ro_ HO0.out⟩, ⟨by repeat (first | (with_reducible first | exact HK.out | apply Kept.alloc | apply Kept.drewN | apply Kept.drew) | exact HK.out)⟩, ⟨Bn_ HB.out⟩⟩
  case round =>
    clear H'
    try clear p2
    obtain ⟨x0_1, x1_1, x5_1, rfl, rfl, HA, HK1, HO_0, HK, HB⟩ := hrel
    cases gk with
    | zero => exact absurd HA.out (by simp [laws_markNodeS.l0])
    | succ k1 =>
      have H := HA.out
      clear HA
      simp only [laws_markNodeS.l0] at H
      by_cases c3 : x5_1 < (x0_1.length : Int)
      rotate_left
      ·
       rw [if_neg c3] at H
       have c3b0 := decide_eq_false c3
       clear c3
       simp only [Option.some.injEq, Prod.mk.injEq] at H
       obtain ⟨rfl, rfl⟩ := H
       obtain ⟨Ao31, co31, eo31⟩ := Kd.R_slice HO_0.out
       subst eo31
       go_wp2
       go_ret
       exact ⟨er_, by (with_reducible repeat (first | apply Kd.R_alloc | apply Kd.R_drewN | apply Kd.R_drew)); exact HO_0.out, Bn_ HB.out, by repeat (first | (with_reducible first | exact HK.out | apply Kept.alloc | apply Kept.drewN | apply Kept.drew) | exact HK.out)⟩
      rw [if_pos c3] at H
      have c3b0 := decide_eq_true c3
      clear c3
      by_cases c4 : 0 ≤ x5_1
      rotate_left
      ·
       rw [if_neg c4] at H
       exact absurd H (by simp)
      rw [if_pos c4] at H
      have c4b0 := decide_eq_true c4
      clear c4
      obtain ⟨y342, hy342⟩ : ∃ y_ : List (S55), y_ = (x0_1.set (x5_1 : Int).toNat (⟨x1_1, (rd_T55 x0_1 x5_1).f1, (rd_T55 x0_1 x5_1).f2, (rd_T55 x0_1 x5_1).f3, (rd_T55 x0_1 x5_1).f4, (rd_T55 x0_1 x5_1).f5, (rd_T55 x0_1 x5_1).f6⟩ : S55)) := ⟨_, rfl⟩
      replace H : ((some (y342.set (x5_1 : Int).toNat (⟨(rd_T55 y342 x5_1).f0, wrap64 (x1_1 + 1), (rd_T55 y342 x5_1).f2, (rd_T55 y342 x5_1).f3, (rd_T55 y342 x5_1).f4, (rd_T55 y342 x5_1).f5, (rd_T55 y342 x5_1).f6⟩ : S55) : List (S55))).bind fun y343 => ((some (y343.set (x5_1 : Int).toNat (⟨(rd_T55 y343 x5_1).f0, (rd_T55 y343 x5_1).f1, wrap64 ((wrap64 (x1_1 + 1)) + 1), (rd_T55 y343 x5_1).f3, (rd_T55 y343 x5_1).f4, (rd_T55 y343 x5_1).f5, (rd_T55 y343 x5_1).f6⟩ : S55) : List (S55))).bind fun y344 => ((some (y344.set (x5_1 : Int).toNat (⟨(rd_T55 y344 x5_1).f0, (rd_T55 y344 x5_1).f1, (rd_T55 y344 x5_1).f2, wrap64 ((wrap64 ((wrap64 (x1_1 + 1)) + 1)) + 1), (rd_T55 y344 x5_1).f4, (rd_T55 y344 x5_1).f5, (rd_T55 y344 x5_1).f6⟩ : S55) : List (S55))).bind fun y345 => ((some (y345.set (x5_1 : Int).toNat (⟨(rd_T55 y345 x5_1).f0, (rd_T55 y345 x5_1).f1, (rd_T55 y345 x5_1).f2, (rd_T55 y345 x5_1).f3, wrap64 ((wrap64 ((wrap64 ((wrap64 (x1_1 + 1)) + 1)) + 1)) + 1), (rd_T55 y345 x5_1).f5, (rd_T55 y345 x5_1).f6⟩ : S55) : List (S55))).bind fun y346 => ((laws_markText.f k1 (wrap64 ((wrap64 ((wrap64 ((wrap64 ((wrap64 (x1_1 + 1)) + 1)) + 1)) + 1)) + 1))).bind fun t347 => ((some (y346.set (x5_1 : Int).toNat (⟨(rd_T55 y346 x5_1).f0, (rd_T55 y346 x5_1).f1, (rd_T55 y346 x5_1).f2, (rd_T55 y346 x5_1).f3, (rd_T55 y346 x5_1).f4, t347, (rd_T55 y346 x5_1).f6⟩ : S55) : List (S55))).bind fun y348 => ((laws_markText.f k1 (wrap64 ((wrap64 ((wrap64 ((wrap64 ((wrap64 ((wrap64 (x1_1 + 1)) + 1)) + 1)) + 1)) + 1)) + 1))).bind fun t349 => (laws_markNodeS.l0 k1 (y348.set (x5_1 : Int).toNat (⟨(rd_T55 y348 x5_1).f0, (rd_T55 y348 x5_1).f1, (rd_T55 y348 x5_1).f2, (rd_T55 y348 x5_1).f3, (rd_T55 y348 x5_1).f4, (rd_T55 y348 x5_1).f5, t349⟩ : S55)) (wrap64 ((wrap64 ((wrap64 ((wrap64 ((wrap64 ((wrap64 ((wrap64 (x1_1 + 1)) + 1)) + 1)) + 1)) + 1)) + 1)) + 1)) (wrap64 (x5_1 + 1)))))))))) = some (r1, r2) := by first | (rw [hy342]; with_reducible exact H) | (have H2_ := (Option.bind_some _ _).symm.trans H; rw [hy342]; with_reducible exact H2_) | (have H2_ := (Option.bind_some _ _).symm.trans H; with_reducible exact H2_) | with_reducible exact H | (rw [hy342]; exact H) | exact H
      have Ny342 := Ad_.mk hy342
      clear hy342
      obtain ⟨y343, hy343⟩ : ∃ y_ : List (S55), y_ = (y342.set (x5_1 : Int).toNat (⟨(rd_T55 y342 x5_1).f0, wrap64 (x1_1 + 1), (rd_T55 y342 x5_1).f2, (rd_T55 y342 x5_1).f3, (rd_T55 y342 x5_1).f4, (rd_T55 y342 x5_1).f5, (rd_T55 y342 x5_1).f6⟩ : S55)) := ⟨_, rfl⟩
      replace H : ((some (y343.set (x5_1 : Int).toNat (⟨(rd_T55 y343 x5_1).f0, (rd_T55 y343 x5_1).f1, wrap64 ((wrap64 (x1_1 + 1)) + 1), (rd_T55 y343 x5_1).f3, (rd_T55 y343 x5_1).f4, (rd_T55 y343 x5_1).f5, (rd_T55 y343 x5_1).f6⟩ : S55) : List (S55))).bind fun y344 => ((some (y344.set (x5_1 : Int).toNat (⟨(rd_T55 y344 x5_1).f0, (rd_T55 y344 x5_1).f1, (rd_T55 y344 x5_1).f2, wrap64 ((wrap64 ((wrap64 (x1_1 + 1)) + 1)) + 1), (rd_T55 y344 x5_1).f4, (rd_T55 y344 x5_1).f5, (rd_T55 y344 x5_1).f6⟩ : S55) : List (S55))).bind fun y345 => ((some (y345.set (x5_1 : Int).toNat (⟨(rd_T55 y345 x5_1).f0, (rd_T55 y345 x5_1).f1, (rd_T55 y345 x5_1).f2, (rd_T55 y345 x5_1).f3, wrap64 ((wrap64 ((wrap64 ((wrap64 (x1_1 + 1)) + 1)) + 1)) + 1), (rd_T55 y345 x5_1).f5, (rd_T55 y345 x5_1).f6⟩ : S55) : List (S55))).bind fun y346 => ((laws_markText.f k1 (wrap64 ((wrap64 ((wrap64 ((wrap64 ((wrap64 (x1_1 + 1)) + 1)) + 1)) + 1)) + 1))).bind fun t347 => ((some (y346.set (x5_1 : Int).toNat (⟨(rd_T55 y346 x5_1).f0, (rd_T55 y346 x5_1).f1, (rd_T55 y346 x5_1).f2, (rd_T55 y346 x5_1).f3, (rd_T55 y346 x5_1).f4, t347, (rd_T55 y346 x5_1).f6⟩ : S55) : List (S55))).bind fun y348 => ((laws_markText.f k1 (wrap64 ((wrap64 ((wrap64 ((wrap64 ((wrap64 ((wrap64 (x1_1 + 1)) + 1)) + 1)) + 1)) + 1)) + 1))).bind fun t349 => (laws_markNodeS.l0 k1 (y348.set (x5_1 : Int).toNat (⟨(rd_T55 y348 x5_1).f0, (rd_T55 y348 x5_1).f1, (rd_T55 y348 x5_1).f2, (rd_T55 y348 x5_1).f3, (rd_T55 y348 x5_1).f4, (rd_T55 y348 x5_1).f5, t349⟩ : S55)) (wrap64 ((wrap64 ((wrap64 ((wrap64 ((wrap64 ((wrap64 ((wrap64 (x1_1 + 1)) + 1)) + 1)) + 1)) + 1)) + 1)) + 1)) (wrap64 (x5_1 + 1))))))))) = some (r1, r2) := by first | (rw [hy343]; with_reducible exact H) | (have H2_ := (Option.bind_some _ _).symm.trans H; rw [hy343]; with_reducible exact H2_) | (have H2_ := (Option.bind_some _ _).symm.trans H; with_reducible exact H2_) | with_reducible exact H | (rw [hy343]; exact H) | exact H
      have Ny343 := Ad_.mk hy343
      clear hy343
      obtain ⟨y344, hy344⟩ : ∃ y_ : List (S55), y_ = (y343.set (x5_1 : Int).toNat (⟨(rd_T55 y343 x5_1).f0, (rd_T55 y343 x5_1).f1, wrap64 ((wrap64 (x1_1 + 1)) + 1), (rd_T55 y343 x5_1).f3, (rd_T55 y343 x5_1).f4, (rd_T55 y343 x5_1).f5, (rd_T55 y343 x5_1).f6⟩ : S55)) := ⟨_, rfl⟩
      replace H : ((some (y344.set (x5_1 : Int).toNat (⟨(rd_T55 y344 x5_1).f0, (rd_T55 y344 x5_1).f1, (rd_T55 y344 x5_1).f2, wrap64 ((wrap64 ((wrap64 (x1_1 + 1)) + 1)) + 1), (rd_T55 y344 x5_1).f4, (rd_T55 y344 x5_1).f5, (rd_T55 y344 x5_1).f6⟩ : S55) : List (S55))).bind fun y345 => ((some (y345.set (x5_1 : Int).toNat (⟨(rd_T55 y345 x5_1).f0, (rd_T55 y345 x5_1).f1, (rd_T55 y345 x5_1).f2, (rd_T55 y345 x5_1).f3, wrap64 ((wrap64 ((wrap64 ((wrap64 (x1_1 + 1)) + 1)) + 1)) + 1), (rd_T55 y345 x5_1).f5, (rd_T55 y345 x5_1).f6⟩ : S55) : List (S55))).bind fun y346 => ((laws_markText.f k1 (wrap64 ((wrap64 ((wrap64 ((wrap64 ((wrap64 (x1_1 + 1)) + 1)) + 1)) + 1)) + 1))).bind fun t347 => ((some (y346.set (x5_1 : Int).toNat (⟨(rd_T55 y346 x5_1).f0, (rd_T55 y346 x5_1).f1, (rd_T55 y346 x5_1).f2, (rd_T55 y346 x5_1).f3, (rd_T55 y346 x5_1).f4, t347, (rd_T55 y346 x5_1).f6⟩ : S55) : List (S55))).bind fun y348 => ((laws_markText.f k1 (wrap64 ((wrap64 ((wrap64 ((wrap64 ((wrap64 ((wrap64 (x1_1 + 1)) + 1)) + 1)) + 1)) + 1)) + 1))).bind fun t349 => (laws_markNodeS.l0 k1 (y348.set (x5_1 : Int).toNat (⟨(rd_T55 y348 x5_1).f0, (rd_T55 y348 x5_1).f1, (rd_T55 y348 x5_1).f2, (rd_T55 y348 x5_1).f3, (rd_T55 y348 x5_1).f4, (rd_T55 y348 x5_1).f5, t349⟩ : S55)) (wrap64 ((wrap64 ((wrap64 ((wrap64 ((wrap64 ((wrap64 ((wrap64 (x1_1 + 1)) + 1)) + 1)) + 1)) + 1)) + 1)) + 1)) (wrap64 (x5_1 + 1)))))))) = some (r1, r2) := by first | (rw [hy344]; with_reducible exact H) | (have H2_ := (Option.bind_some _ _).symm.trans H; rw [hy344]; with_reducible exact H2_) | (have H2_ := (Option.bind_some _ _).symm.trans H; with_reducible exact H2_) | with_reducible exact H | (rw [hy344]; exact H) | exact H
      have Ny344 := Ad_.mk hy344
      clear hy344
      obtain ⟨y345, hy345⟩ : ∃ y_ : List (S55), y_ = (y344.set (x5_1 : Int).toNat (⟨(rd_T55 y344 x5_1).f0, (rd_T55 y344 x5_1).f1, (rd_T55 y344 x5_1).f2, wrap64 ((wrap64 ((wrap64 (x1_1 + 1)) + 1)) + 1), (rd_T55 y344 x5_1).f4, (rd_T55 y344 x5_1).f5, (rd_T55 y344 x5_1).f6⟩ : S55)) := ⟨_, rfl⟩
      replace H : ((some (y345.set (x5_1 : Int).toNat (⟨(rd_T55 y345 x5_1).f0, (rd_T55 y345 x5_1).f1, (rd_T55 y345 x5_1).f2, (rd_T55 y345 x5_1).f3, wrap64 ((wrap64 ((wrap64 ((wrap64 (x1_1 + 1)) + 1)) + 1)) + 1), (rd_T55 y345 x5_1).f5, (rd_T55 y345 x5_1).f6⟩ : S55) : List (S55))).bind fun y346 => ((laws_markText.f k1 (wrap64 ((wrap64 ((wrap64 ((wrap64 ((wrap64 (x1_1 + 1)) + 1)) + 1)) + 1)) + 1))).bind fun t347 => ((some (y346.set (x5_1 : Int).toNat (⟨(rd_T55 y346 x5_1).f0, (rd_T55 y346 x5_1).f1, (rd_T55 y346 x5_1).f2, (rd_T55 y346 x5_1).f3, (rd_T55 y346 x5_1).f4, t347, (rd_T55 y346 x5_1).f6⟩ : S55) : List (S55))).bind fun y348 => ((laws_markText.f k1 (wrap64 ((wrap64 ((wrap64 ((wrap64 ((wrap64 ((wrap64 (x1_1 + 1)) + 1)) + 1)) + 1)) + 1)) + 1))).bind fun t349 => (laws_markNodeS.l0 k1 (y348.set (x5_1 : Int).toNat (⟨(rd_T55 y348 x5_1).f0, (rd_T55 y348 x5_1).f1, (rd_T55 y348 x5_1).f2, (rd_T55 y348 x5_1).f3, (rd_T55 y348 x5_1).f4, (rd_T55 y348 x5_1).f5, t349⟩ : S55)) (wrap64 ((wrap64 ((wrap64 ((wrap64 ((wrap64 ((wrap64 ((wrap64 (x1_1 + 1)) + 1)) + 1)) + 1)) + 1)) + 1)) + 1)) (wrap64 (x5_1 + 1))))))) = some (r1, r2) := by first | (rw [hy345]; with_reducible exact H) | (have H2_ := (Option.bind_some _ _).symm.trans H; rw [hy345]; with_reducible exact H2_) | (have H2_ := (Option.bind_some _ _).symm.trans H; with_reducible exact H2_) | with_reducible exact H | (rw [hy345]; exact H) | exact H
      have Ny345 := Ad_.mk hy345
      clear hy345
      obtain ⟨y346, hy346⟩ : ∃ y_ : List (S55), y_ = (y345.set (x5_1 : Int).toNat (⟨(rd_T55 y345 x5_1).f0, (rd_T55 y345 x5_1).f1, (rd_T55 y345 x5_1).f2, (rd_T55 y345 x5_1).f3, wrap64 ((wrap64 ((wrap64 ((wrap64 (x1_1 + 1)) + 1)) + 1)) + 1), (rd_T55 y345 x5_1).f5, (rd_T55 y345 x5_1).f6⟩ : S55)) := ⟨_, rfl⟩
      replace H : ((laws_markText.f k1 (wrap64 ((wrap64 ((wrap64 ((wrap64 ((wrap64 (x1_1 + 1)) + 1)) + 1)) + 1)) + 1))).bind fun t347 => ((some (y346.set (x5_1 : Int).toNat (⟨(rd_T55 y346 x5_1).f0, (rd_T55 y346 x5_1).f1, (rd_T55 y346 x5_1).f2, (rd_T55 y346 x5_1).f3, (rd_T55 y346 x5_1).f4, t347, (rd_T55 y346 x5_1).f6⟩ : S55) : List (S55))).bind fun y348 => ((laws_markText.f k1 (wrap64 ((wrap64 ((wrap64 ((wrap64 ((wrap64 ((wrap64 (x1_1 + 1)) + 1)) + 1)) + 1)) + 1)) + 1))).bind fun t349 => (laws_markNodeS.l0 k1 (y348.set (x5_1 : Int).toNat (⟨(rd_T55 y348 x5_1).f0, (rd_T55 y348 x5_1).f1, (rd_T55 y348 x5_1).f2, (rd_T55 y348 x5_1).f3, (rd_T55 y348 x5_1).f4, (rd_T55 y348 x5_1).f5, t349⟩ : S55)) (wrap64 ((wrap64 ((wrap64 ((wrap64 ((wrap64 ((wrap64 ((wrap64 (x1_1 + 1)) + 1)) + 1)) + 1)) + 1)) + 1)) + 1)) (wrap64 (x5_1 + 1)))))) = some (r1, r2) := by first | (rw [hy346]; with_reducible exact H) | (have H2_ := (Option.bind_some _ _).symm.trans H; rw [hy346]; with_reducible exact H2_) | (have H2_ := (Option.bind_some _ _).symm.trans H; with_reducible exact H2_) | with_reducible exact H | (rw [hy346]; exact H) | exact H
      have Ny346 := Ad_.mk hy346
      clear hy346
      replace H := Option.bind_eq_some_iff.mp H
      obtain ⟨t347, A100, H⟩ := H
      try dsimp only at H
      have A10 := Ad_.mk A100
      clear A100
      obtain ⟨y348, hy348⟩ : ∃ y_ : List (S55), y_ = (y346.set (x5_1 : Int).toNat (⟨(rd_T55 y346 x5_1).f0, (rd_T55 y346 x5_1).f1, (rd_T55 y346 x5_1).f2, (rd_T55 y346 x5_1).f3, (rd_T55 y346 x5_1).f4, t347, (rd_T55 y346 x5_1).f6⟩ : S55)) := ⟨_, rfl⟩
      replace H : ((laws_markText.f k1 (wrap64 ((wrap64 ((wrap64 ((wrap64 ((wrap64 ((wrap64 (x1_1 + 1)) + 1)) + 1)) + 1)) + 1)) + 1))).bind fun t349 => (laws_markNodeS.l0 k1 (y348.set (x5_1 : Int).toNat (⟨(rd_T55 y348 x5_1).f0, (rd_T55 y348 x5_1).f1, (rd_T55 y348 x5_1).f2, (rd_T55 y348 x5_1).f3, (rd_T55 y348 x5_1).f4, (rd_T55 y348 x5_1).f5, t349⟩ : S55)) (wrap64 ((wrap64 ((wrap64 ((wrap64 ((wrap64 ((wrap64 ((wrap64 (x1_1 + 1)) + 1)) + 1)) + 1)) + 1)) + 1)) + 1)) (wrap64 (x5_1 + 1)))) = some (r1, r2) := by first | (rw [hy348]; with_reducible exact H) | (have H2_ := (Option.bind_some _ _).symm.trans H; rw [hy348]; with_reducible exact H2_) | (have H2_ := (Option.bind_some _ _).symm.trans H; with_reducible exact H2_) | with_reducible exact H | (rw [hy348]; exact H) | exact H
      have Ny348 := Ad_.mk hy348
      clear hy348
      replace H := Option.bind_eq_some_iff.mp H
      obtain ⟨t349, A120, H⟩ := H
      try dsimp only at H
      have A12 := Ad_.mk A120
      clear A120
      obtain ⟨y350, hy350⟩ : ∃ y_ : List (S55), y_ = (y348.set (x5_1 : Int).toNat (⟨(rd_T55 y348 x5_1).f0, (rd_T55 y348 x5_1).f1, (rd_T55 y348 x5_1).f2, (rd_T55 y348 x5_1).f3, (rd_T55 y348 x5_1).f4, (rd_T55 y348 x5_1).f5, t349⟩ : S55)) := ⟨_, rfl⟩
      replace H : (laws_markNodeS.l0 k1 y350 (wrap64 ((wrap64 ((wrap64 ((wrap64 ((wrap64 ((wrap64 ((wrap64 (x1_1 + 1)) + 1)) + 1)) + 1)) + 1)) + 1)) + 1)) (wrap64 (x5_1 + 1))) = some (r1, r2) := by first | (rw [hy350]; with_reducible exact H) | (have H2_ := (Option.bind_some _ _).symm.trans H; rw [hy350]; with_reducible exact H2_) | (have H2_ := (Option.bind_some _ _).symm.trans H; with_reducible exact H2_) | with_reducible exact H | (rw [hy350]; exact H) | exact H
      have Ny350 := Ad_.mk hy350
      clear hy350
      have H' := Ad_.mk H
      clear H
      obtain ⟨Ao14, co14, eo14⟩ := Kd.R_slice HO_0.out
      subst eo14
      have p5 : 0 ≤ (x5_1 : Int) := od_
      have q5 : (x5_1 : Int) < ((x0_1.length : Int) : Int) := od_
      obtain ⟨go5, co5, eo5, gb5, gl5, cl5, HG5⟩ := Kd.R_form HO_0.out (by omega)
      (first | cases eo5 | (injection eo5 with ea_ en_ ec_; (first | subst ea_ | (injection ea_ with ea_; subst ea_)); subst ec_; clear en_))
      have GB5 := Ad_.mk gb5
      have GG5 := Ad_.mk HG5
      clear gb5 gl5 HG5
      have HMgo5 := Ad_.mk (show (P0_ go5 ∨ w.heap.size ≤ go5) from (HO_0.out.1 _ rfl))
      obtain ⟨ce5, hcl5, hM5, hcc5, hfr5⟩ := Kd.R_elem HO_0.out z55 (x5_1 : Int) p5 q5
      obtain rfl := k55_openM hM5
      have hx5_0 : wr.cell? ⟨go5, (x5_1 : Int).toNat * 7, none⟩ = some (.int .i64 ((rd_T55 x0_1 x5_1).f0)) := hcc5 0 _ rfl
      have hx5_1 : wr.cell? ⟨go5, (x5_1 : Int).toNat * 7 + 1, none⟩ = some (.int .i64 ((rd_T55 x0_1 x5_1).f1)) := hcc5 1 _ rfl
      have hx5_2 : wr.cell? ⟨go5, (x5_1 : Int).toNat * 7 + 2, none⟩ = some (.int .i64 ((rd_T55 x0_1 x5_1).f2)) := hcc5 2 _ rfl
      have hx5_3 : wr.cell? ⟨go5, (x5_1 : Int).toNat * 7 + 3, none⟩ = some (.int .i64 ((rd_T55 x0_1 x5_1).f3)) := hcc5 3 _ rfl
      have hx5_4 : wr.cell? ⟨go5, (x5_1 : Int).toNat * 7 + 4, none⟩ = some (.int .i64 ((rd_T55 x0_1 x5_1).f4)) := hcc5 4 _ rfl
      have hx5_5 : wr.cell? ⟨go5, (x5_1 : Int).toNat * 7 + 5, none⟩ = some (.string ((rd_T55 x0_1 x5_1).f5)) := hcc5 5 _ rfl
      have hx5_6 : wr.cell? ⟨go5, (x5_1 : Int).toNat * 7 + 6, none⟩ = some (.string ((rd_T55 x0_1 x5_1).f6)) := hcc5 6 _ rfl
      have hf5_0 : wr.frozen? ⟨go5, (x5_1 : Int).toNat * 7, none⟩ = false := hfr5 0
      have hf5_1 : wr.frozen? ⟨go5, (x5_1 : Int).toNat * 7 + 1, none⟩ = false := hfr5 1
      have hf5_2 : wr.frozen? ⟨go5, (x5_1 : Int).toNat * 7 + 2, none⟩ = false := hfr5 2
      have hf5_3 : wr.frozen? ⟨go5, (x5_1 : Int).toNat * 7 + 3, none⟩ = false := hfr5 3
      have hf5_4 : wr.frozen? ⟨go5, (x5_1 : Int).toNat * 7 + 4, none⟩ = false := hfr5 4
      have hf5_5 : wr.frozen? ⟨go5, (x5_1 : Int).toNat * 7 + 5, none⟩ = false := hfr5 5
      have hf5_6 : wr.frozen? ⟨go5, (x5_1 : Int).toNat * 7 + 6, none⟩ = false := hfr5 6
      clear hcl5 hcc5 hfr5 hM5
      replace p5 := eq_true p5
      replace q5 := eq_true q5
      have HX15 := Ad_.mk (show Kd.R k55 55 wr w0.heap.size (fun k_ => (P0_ k_ ∨ w.heap.size ≤ k_)) (.slice (some ⟨go5, 0, none⟩) x0_1.length co14) x0_1 from (Ro_ HO_0.out))
      obtain ⟨ce15, hcl15, hM15, hcc15, hfr15⟩ := Kd.R_elem HX15.out z55 (x5_1 : Int) (od_) (by have h_ : (x5_1 : Int) < ((x0_1.length : Int) : Int) := od_; first | exact h_ | (have e_ := (Kd.R_reads' HO_0.out).1; omega) | simpa using h_)
      obtain rfl := k55_openM hM15
      have HP15 := Kd.R_seg HX15.out (x5_1 : Int) (od_) (by have h_ : (x5_1 : Int) < ((x0_1.length : Int) : Int) := od_; first | exact h_ | (have e_ := (Kd.R_reads' HO_0.out).1; omega) | simpa using h_) (seg := [.int .i64 x1_1]) (j := 0) hcl15 hcc15 (show 1 ≤ 7 from by decide) (x' := (⟨x1_1, (rd_T55 x0_1 x5_1).f1, (rd_T55 x0_1 x5_1).f2, (rd_T55 x0_1 x5_1).f3, (rd_T55 x0_1 x5_1).f4, (rd_T55 x0_1 x5_1).f5, (rd_T55 x0_1 x5_1).f6⟩ : S55)) (k55_mkM _ _ _ (⟨x1_1, (rd_T55 x0_1 x5_1).f1, (rd_T55 x0_1 x5_1).f2, (rd_T55 x0_1 x5_1).f3, (rd_T55 x0_1 x5_1).f4, (rd_T55 x0_1 x5_1).f5, (rd_T55 x0_1 x5_1).f6⟩ : S55) ) (fun _ hk => hk)
      have hx15_0 := hcc15 0 _ rfl
      (try simp only [show (k55).sz = 7 from rfl, Nat.mul_one, Nat.add_zero] at hx15_0)
      have hf15_0 := hfr15 0
      (try simp only [show (k55).sz = 7 from rfl, Nat.mul_one, Nat.add_zero] at hf15_0)
      clear hcl15 hcc15 hfr15 hM15
      go_wp2_with (first | ((with_reducible refine gate_store (t := 3) (p := 16) rfl ?_); refine store_event (t := 3) (p := 16) (v := ?vo_w16) (w1 := (wr.setCell ⟨go5, (x5_1 : Int).toNat * 7, none⟩ (.int .i64 x1_1))) ?hg ?ho ?hn ?hr ?_; (case ho => rfl); (case hg => rfl); (case hn => rfl); (case hr => first | (go_simp; done) | (go_simp; rfl)); intro w16 hw; have hg : wr.grownBy w16 (some go5) := (by rw [hw]; exact HP15.2); have hp_ : Kd.R k55 55 w16 w0.heap.size (fun k_ => (P0_ k_ ∨ w.heap.size ≤ k_)) (.slice (some ⟨go5, 0, none⟩) x0_1.length co14) y342 := (by rw [hw, Ny342.out]; exact HP15.1); clear HP15; have n0_ := Ad_.mk (hp_); have n1_ := Ad_.mk ((by rw [hw]; exact bS_ (HB.out) GB5.out : Below w0.heap.size w0 w16)); have n2_ := Ad_.mk (Kept.of_grown (S := (fun k_ => P0_ k_)) hg (by repeat (first | (with_reducible first | exact HK.out | apply Kept.alloc | apply Kept.drewN | apply Kept.drew) | exact HK.out)) (fun k_ e_ => (HO_0.out.1 k_ e_))); clear HO_0; clear HB; clear HK; have HO_0 := n0_; have HB := n1_; have HK := n2_; clear n0_ n1_ n2_; clear hg hw hp_; have p6 : 0 ≤ (x5_1 : Int) := od_; have q6 : (x5_1 : Int) < ((x0_1.length : Int) : Int) := od_; obtain ⟨ce6, hcl6, hM6, hcc6, hfr6⟩ := Kd.R_elem HO_0.out z55 (x5_1 : Int) p6 q6; obtain rfl := k55_openM hM6; have hx6_0 : w16.cell? ⟨go5, (x5_1 : Int).toNat * 7, none⟩ = some (.int .i64 ((rd_T55 y342 x5_1).f0)) := hcc6 0 _ rfl; have hx6_1 : w16.cell? ⟨go5, (x5_1 : Int).toNat * 7 + 1, none⟩ = some (.int .i64 ((rd_T55 y342 x5_1).f1)) := hcc6 1 _ rfl; have hx6_2 : w16.cell? ⟨go5, (x5_1 : Int).toNat * 7 + 2, none⟩ = some (.int .i64 ((rd_T55 y342 x5_1).f2)) := hcc6 2 _ rfl; have hx6_3 : w16.cell? ⟨go5, (x5_1 : Int).toNat * 7 + 3, none⟩ = some (.int .i64 ((rd_T55 y342 x5_1).f3)) := hcc6 3 _ rfl; have hx6_4 : w16.cell? ⟨go5, (x5_1 : Int).toNat * 7 + 4, none⟩ = some (.int .i64 ((rd_T55 y342 x5_1).f4)) := hcc6 4 _ rfl; have hx6_5 : w16.cell? ⟨go5, (x5_1 : Int).toNat * 7 + 5, none⟩ = some (.string ((rd_T55 y342 x5_1).f5)) := hcc6 5 _ rfl; have hx6_6 : w16.cell? ⟨go5, (x5_1 : Int).toNat * 7 + 6, none⟩ = some (.string ((rd_T55 y342 x5_1).f6)) := hcc6 6 _ rfl; have hf6_0 : w16.frozen? ⟨go5, (x5_1 : Int).toNat * 7, none⟩ = false := hfr6 0; have hf6_1 : w16.frozen? ⟨go5, (x5_1 : Int).toNat * 7 + 1, none⟩ = false := hfr6 1; have hf6_2 : w16.frozen? ⟨go5, (x5_1 : Int).toNat * 7 + 2, none⟩ = false := hfr6 2; have hf6_3 : w16.frozen? ⟨go5, (x5_1 : Int).toNat * 7 + 3, none⟩ = false := hfr6 3; have hf6_4 : w16.frozen? ⟨go5, (x5_1 : Int).toNat * 7 + 4, none⟩ = false := hfr6 4; have hf6_5 : w16.frozen? ⟨go5, (x5_1 : Int).toNat * 7 + 5, none⟩ = false := hfr6 5; have hf6_6 : w16.frozen? ⟨go5, (x5_1 : Int).toNat * 7 + 6, none⟩ = false := hfr6 6; clear hcl6 hcc6 hfr6 hM6; replace p6 := eq_true p6; replace q6 := eq_true q6; have HX17 := Ad_.mk (show Kd.R k55 55 w16 w0.heap.size (fun k_ => (P0_ k_ ∨ w.heap.size ≤ k_)) (.slice (some ⟨go5, 0, none⟩) x0_1.length co14) y342 from (Ro_ HO_0.out)); obtain ⟨ce17, hcl17, hM17, hcc17, hfr17⟩ := Kd.R_elem HX17.out z55 (x5_1 : Int) (od_) (by have h_ : (x5_1 : Int) < ((x0_1.length : Int) : Int) := od_; first | exact h_ | (have e_ := (Kd.R_reads' HO_0.out).1; omega) | simpa using h_); obtain rfl := k55_openM hM17; have HP17 := Kd.R_seg HX17.out (x5_1 : Int) (od_) (by have h_ : (x5_1 : Int) < ((x0_1.length : Int) : Int) := od_; first | exact h_ | (have e_ := (Kd.R_reads' HO_0.out).1; omega) | simpa using h_) (seg := [.int .i64 (wrap64 (x1_1 + 1))]) (j := 1) hcl17 hcc17 (show 2 ≤ 7 from by decide) (x' := (⟨(rd_T55 y342 x5_1).f0, wrap64 (x1_1 + 1), (rd_T55 y342 x5_1).f2, (rd_T55 y342 x5_1).f3, (rd_T55 y342 x5_1).f4, (rd_T55 y342 x5_1).f5, (rd_T55 y342 x5_1).f6⟩ : S55)) (k55_mkM _ _ _ (⟨(rd_T55 y342 x5_1).f0, wrap64 (x1_1 + 1), (rd_T55 y342 x5_1).f2, (rd_T55 y342 x5_1).f3, (rd_T55 y342 x5_1).f4, (rd_T55 y342 x5_1).f5, (rd_T55 y342 x5_1).f6⟩ : S55) ) (fun _ hk => hk); have hx17_1 := hcc17 1 _ rfl; (try simp only [show (k55).sz = 7 from rfl, Nat.mul_one, Nat.add_zero] at hx17_1); have hf17_1 := hfr17 1; (try simp only [show (k55).sz = 7 from rfl, Nat.mul_one, Nat.add_zero] at hf17_1); clear hcl17 hcc17 hfr17 hM17) | ((with_reducible refine gate_store (t := 3) (p := 23) rfl ?_); refine store_event (t := 3) (p := 23) (v := ?vo_w18) (w1 := (w16.setCell ⟨go5, (x5_1 : Int).toNat * 7 + 1, none⟩ (.int .i64 (wrap64 (x1_1 + 1))))) ?hg ?ho ?hn ?hr ?_; (case ho => rfl); (case hg => rfl); (case hn => rfl); (case hr => first | (go_simp; done) | (go_simp; rfl)); intro w18 hw; have hg : w16.grownBy w18 (some go5) := (by rw [hw]; exact HP17.2); have hp_ : Kd.R k55 55 w18 w0.heap.size (fun k_ => (P0_ k_ ∨ w.heap.size ≤ k_)) (.slice (some ⟨go5, 0, none⟩) x0_1.length co14) y343 := (by rw [hw, Ny343.out]; exact HP17.1); clear HP17; have n0_ := Ad_.mk (hp_); have n1_ := Ad_.mk ((by rw [hw]; exact bS_ (HB.out) GB5.out : Below w0.heap.size w0 w18)); have n2_ := Ad_.mk (Kept.of_grown (S := (fun k_ => P0_ k_)) hg (by repeat (first | (with_reducible first | exact HK.out | apply Kept.alloc | apply Kept.drewN | apply Kept.drew) | exact HK.out)) (fun k_ e_ => (HO_0.out.1 k_ e_))); clear HO_0; clear HB; clear HK; have HO_0 := n0_; have HB := n1_; have HK := n2_; clear n0_ n1_ n2_; clear hg hw hp_; have p7 : 0 ≤ (x5_1 : Int) := od_; have q7 : (x5_1 : Int) < ((x0_1.length : Int) : Int) := od_; obtain ⟨ce7, hcl7, hM7, hcc7, hfr7⟩ := Kd.R_elem HO_0.out z55 (x5_1 : Int) p7 q7; obtain rfl := k55_openM hM7; have hx7_0 : w18.cell? ⟨go5, (x5_1 : Int).toNat * 7, none⟩ = some (.int .i64 ((rd_T55 y343 x5_1).f0)) := hcc7 0 _ rfl; have hx7_1 : w18.cell? ⟨go5, (x5_1 : Int).toNat * 7 + 1, none⟩ = some (.int .i64 ((rd_T55 y343 x5_1).f1)) := hcc7 1 _ rfl; have hx7_2 : w18.cell? ⟨go5, (x5_1 : Int).toNat * 7 + 2, none⟩ = some (.int .i64 ((rd_T55 y343 x5_1).f2)) := hcc7 2 _ rfl; have hx7_3 : w18.cell? ⟨go5, (x5_1 : Int).toNat * 7 + 3, none⟩ = some (.int .i64 ((rd_T55 y343 x5_1).f3)) := hcc7 3 _ rfl; have hx7_4 : w18.cell? ⟨go5, (x5_1 : Int).toNat * 7 + 4, none⟩ = some (.int .i64 ((rd_T55 y343 x5_1).f4)) := hcc7 4 _ rfl; have hx7_5 : w18.cell? ⟨go5, (x5_1 : Int).toNat * 7 + 5, none⟩ = some (.string ((rd_T55 y343 x5_1).f5)) := hcc7 5 _ rfl; have hx7_6 : w18.cell? ⟨go5, (x5_1 : Int).toNat * 7 + 6, none⟩ = some (.string ((rd_T55 y343 x5_1).f6)) := hcc7 6 _ rfl; have hf7_0 : w18.frozen? ⟨go5, (x5_1 : Int).toNat * 7, none⟩ = false := hfr7 0; have hf7_1 : w18.frozen? ⟨go5, (x5_1 : Int).toNat * 7 + 1, none⟩ = false := hfr7 1; have hf7_2 : w18.frozen? ⟨go5, (x5_1 : Int).toNat * 7 + 2, none⟩ = false := hfr7 2; have hf7_3 : w18.frozen? ⟨go5, (x5_1 : Int).toNat * 7 + 3, none⟩ = false := hfr7 3; have hf7_4 : w18.frozen? ⟨go5, (x5_1 : Int).toNat * 7 + 4, none⟩ = false := hfr7 4; have hf7_5 : w18.frozen? ⟨go5, (x5_1 : Int).toNat * 7 + 5, none⟩ = false := hfr7 5; have hf7_6 : w18.frozen? ⟨go5, (x5_1 : Int).toNat * 7 + 6, none⟩ = false := hfr7 6; clear hcl7 hcc7 hfr7 hM7; replace p7 := eq_true p7; replace q7 := eq_true q7; have HX19 := Ad_.mk (show Kd.R k55 55 w18 w0.heap.size (fun k_ => (P0_ k_ ∨ w.heap.size ≤ k_)) (.slice (some ⟨go5, 0, none⟩) x0_1.length co14) y343 from (Ro_ HO_0.out)); obtain ⟨ce19, hcl19, hM19, hcc19, hfr19⟩ := Kd.R_elem HX19.out z55 (x5_1 : Int) (od_) (by have h_ : (x5_1 : Int) < ((x0_1.length : Int) : Int) := od_; first | exact h_ | (have e_ := (Kd.R_reads' HO_0.out).1; omega) | simpa using h_); obtain rfl := k55_openM hM19; have HP19 := Kd.R_seg HX19.out (x5_1 : Int) (od_) (by have h_ : (x5_1 : Int) < ((x0_1.length : Int) : Int) := od_; first | exact h_ | (have e_ := (Kd.R_reads' HO_0.out).1; omega) | simpa using h_) (seg := [.int .i64 (wrap64 ((wrap64 (x1_1 + 1)) + 1))]) (j := 2) hcl19 hcc19 (show 3 ≤ 7 from by decide) (x' := (⟨(rd_T55 y343 x5_1).f0, (rd_T55 y343 x5_1).f1, wrap64 ((wrap64 (x1_1 + 1)) + 1), (rd_T55 y343 x5_1).f3, (rd_T55 y343 x5_1).f4, (rd_T55 y343 x5_1).f5, (rd_T55 y343 x5_1).f6⟩ : S55)) (k55_mkM _ _ _ (⟨(rd_T55 y343 x5_1).f0, (rd_T55 y343 x5_1).f1, wrap64 ((wrap64 (x1_1 + 1)) + 1), (rd_T55 y343 x5_1).f3, (rd_T55 y343 x5_1).f4, (rd_T55 y343 x5_1).f5, (rd_T55 y343 x5_1).f6⟩ : S55) ) (fun _ hk => hk); have hx19_2 := hcc19 2 _ rfl; (try simp only [show (k55).sz = 7 from rfl, Nat.mul_one, Nat.add_zero] at hx19_2); have hf19_2 := hfr19 2; (try simp only [show (k55).sz = 7 from rfl, Nat.mul_one, Nat.add_zero] at hf19_2); clear hcl19 hcc19 hfr19 hM19) | ((with_reducible refine gate_store (t := 3) (p := 30) rfl ?_); refine store_event (t := 3) (p := 30) (v := ?vo_w20) (w1 := (w18.setCell ⟨go5, (x5_1 : Int).toNat * 7 + 2, none⟩ (.int .i64 (wrap64 ((wrap64 (x1_1 + 1)) + 1))))) ?hg ?ho ?hn ?hr ?_; (case ho => rfl); (case hg => rfl); (case hn => rfl); (case hr => first | (go_simp; done) | (go_simp; rfl)); intro w20 hw; have hg : w18.grownBy w20 (some go5) := (by rw [hw]; exact HP19.2); have hp_ : Kd.R k55 55 w20 w0.heap.size (fun k_ => (P0_ k_ ∨ w.heap.size ≤ k_)) (.slice (some ⟨go5, 0, none⟩) x0_1.length co14) y344 := (by rw [hw, Ny344.out]; exact HP19.1); clear HP19; have n0_ := Ad_.mk (hp_); have n1_ := Ad_.mk ((by rw [hw]; exact bS_ (HB.out) GB5.out : Below w0.heap.size w0 w20)); have n2_ := Ad_.mk (Kept.of_grown (S := (fun k_ => P0_ k_)) hg (by repeat (first | (with_reducible first | exact HK.out | apply Kept.alloc | apply Kept.drewN | apply Kept.drew) | exact HK.out)) (fun k_ e_ => (HO_0.out.1 k_ e_))); clear HO_0; clear HB; clear HK; have HO_0 := n0_; have HB := n1_; have HK := n2_; clear n0_ n1_ n2_; clear hg hw hp_; have p8 : 0 ≤ (x5_1 : Int) := od_; have q8 : (x5_1 : Int) < ((x0_1.length : Int) : Int) := od_; obtain ⟨ce8, hcl8, hM8, hcc8, hfr8⟩ := Kd.R_elem HO_0.out z55 (x5_1 : Int) p8 q8; obtain rfl := k55_openM hM8; have hx8_0 : w20.cell? ⟨go5, (x5_1 : Int).toNat * 7, none⟩ = some (.int .i64 ((rd_T55 y344 x5_1).f0)) := hcc8 0 _ rfl; have hx8_1 : w20.cell? ⟨go5, (x5_1 : Int).toNat * 7 + 1, none⟩ = some (.int .i64 ((rd_T55 y344 x5_1).f1)) := hcc8 1 _ rfl; have hx8_2 : w20.cell? ⟨go5, (x5_1 : Int).toNat * 7 + 2, none⟩ = some (.int .i64 ((rd_T55 y344 x5_1).f2)) := hcc8 2 _ rfl; have hx8_3 : w20.cell? ⟨go5, (x5_1 : Int).toNat * 7 + 3, none⟩ = some (.int .i64 ((rd_T55 y344 x5_1).f3)) := hcc8 3 _ rfl; have hx8_4 : w20.cell? ⟨go5, (x5_1 : Int).toNat * 7 + 4, none⟩ = some (.int .i64 ((rd_T55 y344 x5_1).f4)) := hcc8 4 _ rfl; have hx8_5 : w20.cell? ⟨go5, (x5_1 : Int).toNat * 7 + 5, none⟩ = some (.string ((rd_T55 y344 x5_1).f5)) := hcc8 5 _ rfl; have hx8_6 : w20.cell? ⟨go5, (x5_1 : Int).toNat * 7 + 6, none⟩ = some (.string ((rd_T55 y344 x5_1).f6)) := hcc8 6 _ rfl; have hf8_0 : w20.frozen? ⟨go5, (x5_1 : Int).toNat * 7, none⟩ = false := hfr8 0; have hf8_1 : w20.frozen? ⟨go5, (x5_1 : Int).toNat * 7 + 1, none⟩ = false := hfr8 1; have hf8_2 : w20.frozen? ⟨go5, (x5_1 : Int).toNat * 7 + 2, none⟩ = false := hfr8 2; have hf8_3 : w20.frozen? ⟨go5, (x5_1 : Int).toNat * 7 + 3, none⟩ = false := hfr8 3; have hf8_4 : w20.frozen? ⟨go5, (x5_1 : Int).toNat * 7 + 4, none⟩ = false := hfr8 4; have hf8_5 : w20.frozen? ⟨go5, (x5_1 : Int).toNat * 7 + 5, none⟩ = false := hfr8 5; have hf8_6 : w20.frozen? ⟨go5, (x5_1 : Int).toNat * 7 + 6, none⟩ = false := hfr8 6; clear hcl8 hcc8 hfr8 hM8; replace p8 := eq_true p8; replace q8 := eq_true q8; have HX21 := Ad_.mk (show Kd.R k55 55 w20 w0.heap.size (fun k_ => (P0_ k_ ∨ w.heap.size ≤ k_)) (.slice (some ⟨go5, 0, none⟩) x0_1.length co14) y344 from (Ro_ HO_0.out)); obtain ⟨ce21, hcl21, hM21, hcc21, hfr21⟩ := Kd.R_elem HX21.out z55 (x5_1 : Int) (od_) (by have h_ : (x5_1 : Int) < ((x0_1.length : Int) : Int) := od_; first | exact h_ | (have e_ := (Kd.R_reads' HO_0.out).1; omega) | simpa using h_); obtain rfl := k55_openM hM21; have HP21 := Kd.R_seg HX21.out (x5_1 : Int) (od_) (by have h_ : (x5_1 : Int) < ((x0_1.length : Int) : Int) := od_; first | exact h_ | (have e_ := (Kd.R_reads' HO_0.out).1; omega) | simpa using h_) (seg := [.int .i64 (wrap64 ((wrap64 ((wrap64 (x1_1 + 1)) + 1)) + 1))]) (j := 3) hcl21 hcc21 (show 4 ≤ 7 from by decide) (x' := (⟨(rd_T55 y344 x5_1).f0, (rd_T55 y344 x5_1).f1, (rd_T55 y344 x5_1).f2, wrap64 ((wrap64 ((wrap64 (x1_1 + 1)) + 1)) + 1), (rd_T55 y344 x5_1).f4, (rd_T55 y344 x5_1).f5, (rd_T55 y344 x5_1).f6⟩ : S55)) (k55_mkM _ _ _ (⟨(rd_T55 y344 x5_1).f0, (rd_T55 y344 x5_1).f1, (rd_T55 y344 x5_1).f2, wrap64 ((wrap64 ((wrap64 (x1_1 + 1)) + 1)) + 1), (rd_T55 y344 x5_1).f4, (rd_T55 y344 x5_1).f5, (rd_T55 y344 x5_1).f6⟩ : S55) ) (fun _ hk => hk); have hx21_3 := hcc21 3 _ rfl; (try simp only [show (k55).sz = 7 from rfl, Nat.mul_one, Nat.add_zero] at hx21_3); have hf21_3 := hfr21 3; (try simp only [show (k55).sz = 7 from rfl, Nat.mul_one, Nat.add_zero] at hf21_3); clear hcl21 hcc21 hfr21 hM21) | ((with_reducible refine gate_store (t := 3) (p := 37) rfl ?_); refine store_event (t := 3) (p := 37) (v := ?vo_w22) (w1 := (w20.setCell ⟨go5, (x5_1 : Int).toNat * 7 + 3, none⟩ (.int .i64 (wrap64 ((wrap64 ((wrap64 (x1_1 + 1)) + 1)) + 1))))) ?hg ?ho ?hn ?hr ?_; (case ho => rfl); (case hg => rfl); (case hn => rfl); (case hr => first | (go_simp; done) | (go_simp; rfl)); intro w22 hw; have hg : w20.grownBy w22 (some go5) := (by rw [hw]; exact HP21.2); have hp_ : Kd.R k55 55 w22 w0.heap.size (fun k_ => (P0_ k_ ∨ w.heap.size ≤ k_)) (.slice (some ⟨go5, 0, none⟩) x0_1.length co14) y345 := (by rw [hw, Ny345.out]; exact HP21.1); clear HP21; have n0_ := Ad_.mk (hp_); have n1_ := Ad_.mk ((by rw [hw]; exact bS_ (HB.out) GB5.out : Below w0.heap.size w0 w22)); have n2_ := Ad_.mk (Kept.of_grown (S := (fun k_ => P0_ k_)) hg (by repeat (first | (with_reducible first | exact HK.out | apply Kept.alloc | apply Kept.drewN | apply Kept.drew) | exact HK.out)) (fun k_ e_ => (HO_0.out.1 k_ e_))); clear HO_0; clear HB; clear HK; have HO_0 := n0_; have HB := n1_; have HK := n2_; clear n0_ n1_ n2_; clear hg hw hp_; have p9 : 0 ≤ (x5_1 : Int) := od_; have q9 : (x5_1 : Int) < ((x0_1.length : Int) : Int) := od_; obtain ⟨ce9, hcl9, hM9, hcc9, hfr9⟩ := Kd.R_elem HO_0.out z55 (x5_1 : Int) p9 q9; obtain rfl := k55_openM hM9; have hx9_0 : w22.cell? ⟨go5, (x5_1 : Int).toNat * 7, none⟩ = some (.int .i64 ((rd_T55 y345 x5_1).f0)) := hcc9 0 _ rfl; have hx9_1 : w22.cell? ⟨go5, (x5_1 : Int).toNat * 7 + 1, none⟩ = some (.int .i64 ((rd_T55 y345 x5_1).f1)) := hcc9 1 _ rfl; have hx9_2 : w22.cell? ⟨go5, (x5_1 : Int).toNat * 7 + 2, none⟩ = some (.int .i64 ((rd_T55 y345 x5_1).f2)) := hcc9 2 _ rfl; have hx9_3 : w22.cell? ⟨go5, (x5_1 : Int).toNat * 7 + 3, none⟩ = some (.int .i64 ((rd_T55 y345 x5_1).f3)) := hcc9 3 _ rfl; have hx9_4 : w22.cell? ⟨go5, (x5_1 : Int).toNat * 7 + 4, none⟩ = some (.int .i64 ((rd_T55 y345 x5_1).f4)) := hcc9 4 _ rfl; have hx9_5 : w22.cell? ⟨go5, (x5_1 : Int).toNat * 7 + 5, none⟩ = some (.string ((rd_T55 y345 x5_1).f5)) := hcc9 5 _ rfl; have hx9_6 : w22.cell? ⟨go5, (x5_1 : Int).toNat * 7 + 6, none⟩ = some (.string ((rd_T55 y345 x5_1).f6)) := hcc9 6 _ rfl; have hf9_0 : w22.frozen? ⟨go5, (x5_1 : Int).toNat * 7, none⟩ = false := hfr9 0; have hf9_1 : w22.frozen? ⟨go5, (x5_1 : Int).toNat * 7 + 1, none⟩ = false := hfr9 1; have hf9_2 : w22.frozen? ⟨go5, (x5_1 : Int).toNat * 7 + 2, none⟩ = false := hfr9 2; have hf9_3 : w22.frozen? ⟨go5, (x5_1 : Int).toNat * 7 + 3, none⟩ = false := hfr9 3; have hf9_4 : w22.frozen? ⟨go5, (x5_1 : Int).toNat * 7 + 4, none⟩ = false := hfr9 4; have hf9_5 : w22.frozen? ⟨go5, (x5_1 : Int).toNat * 7 + 5, none⟩ = false := hfr9 5; have hf9_6 : w22.frozen? ⟨go5, (x5_1 : Int).toNat * 7 + 6, none⟩ = false := hfr9 6; clear hcl9 hcc9 hfr9 hM9; replace p9 := eq_true p9; replace q9 := eq_true q9; have HX23 := Ad_.mk (show Kd.R k55 55 w22 w0.heap.size (fun k_ => (P0_ k_ ∨ w.heap.size ≤ k_)) (.slice (some ⟨go5, 0, none⟩) x0_1.length co14) y345 from (Ro_ HO_0.out)); obtain ⟨ce23, hcl23, hM23, hcc23, hfr23⟩ := Kd.R_elem HX23.out z55 (x5_1 : Int) (od_) (by have h_ : (x5_1 : Int) < ((x0_1.length : Int) : Int) := od_; first | exact h_ | (have e_ := (Kd.R_reads' HO_0.out).1; omega) | simpa using h_); obtain rfl := k55_openM hM23; have HP23 := Kd.R_seg HX23.out (x5_1 : Int) (od_) (by have h_ : (x5_1 : Int) < ((x0_1.length : Int) : Int) := od_; first | exact h_ | (have e_ := (Kd.R_reads' HO_0.out).1; omega) | simpa using h_) (seg := [.int .i64 (wrap64 ((wrap64 ((wrap64 ((wrap64 (x1_1 + 1)) + 1)) + 1)) + 1))]) (j := 4) hcl23 hcc23 (show 5 ≤ 7 from by decide) (x' := (⟨(rd_T55 y345 x5_1).f0, (rd_T55 y345 x5_1).f1, (rd_T55 y345 x5_1).f2, (rd_T55 y345 x5_1).f3, wrap64 ((wrap64 ((wrap64 ((wrap64 (x1_1 + 1)) + 1)) + 1)) + 1), (rd_T55 y345 x5_1).f5, (rd_T55 y345 x5_1).f6⟩ : S55)) (k55_mkM _ _ _ (⟨(rd_T55 y345 x5_1).f0, (rd_T55 y345 x5_1).f1, (rd_T55 y345 x5_1).f2, (rd_T55 y345 x5_1).f3, wrap64 ((wrap64 ((wrap64 ((wrap64 (x1_1 + 1)) + 1)) + 1)) + 1), (rd_T55 y345 x5_1).f5, (rd_T55 y345 x5_1).f6⟩ : S55) ) (fun _ hk => hk); have hx23_4 := hcc23 4 _ rfl; (try simp only [show (k55).sz = 7 from rfl, Nat.mul_one, Nat.add_zero] at hx23_4); have hf23_4 := hfr23 4; (try simp only [show (k55).sz = 7 from rfl, Nat.mul_one, Nat.add_zero] at hf23_4); clear hcl23 hcc23 hfr23 hM23) | ((with_reducible refine gate_store (t := 3) (p := 44) rfl ?_); refine store_event (t := 3) (p := 44) (v := ?vo_w24) (w1 := (w22.setCell ⟨go5, (x5_1 : Int).toNat * 7 + 4, none⟩ (.int .i64 (wrap64 ((wrap64 ((wrap64 ((wrap64 (x1_1 + 1)) + 1)) + 1)) + 1))))) ?hg ?ho ?hn ?hr ?_; (case ho => rfl); (case hg => rfl); (case hn => rfl); (case hr => first | (go_simp; done) | (go_simp; rfl)); intro w24 hw; have hg : w22.grownBy w24 (some go5) := (by rw [hw]; exact HP23.2); have hp_ : Kd.R k55 55 w24 w0.heap.size (fun k_ => (P0_ k_ ∨ w.heap.size ≤ k_)) (.slice (some ⟨go5, 0, none⟩) x0_1.length co14) y346 := (by rw [hw, Ny346.out]; exact HP23.1); clear HP23; have n0_ := Ad_.mk (hp_); have n1_ := Ad_.mk ((by rw [hw]; exact bS_ (HB.out) GB5.out : Below w0.heap.size w0 w24)); have n2_ := Ad_.mk (Kept.of_grown (S := (fun k_ => P0_ k_)) hg (by repeat (first | (with_reducible first | exact HK.out | apply Kept.alloc | apply Kept.drewN | apply Kept.drew) | exact HK.out)) (fun k_ e_ => (HO_0.out.1 k_ e_))); clear HO_0; clear HB; clear HK; have HO_0 := n0_; have HB := n1_; have HK := n2_; clear n0_ n1_ n2_; clear hg hw hp_) | ((with_reducible refine gC_ (f := 76) rfl ?_); refine gM_ (some 50) rfl rfl Tryd.func76 (by kernel_rfl) rfl #[.int .i64 (wrap64 ((wrap64 ((wrap64 ((wrap64 ((wrap64 (x1_1 + 1)) + 1)) + 1)) + 1)) + 1))] rfl ?_; (with_reducible refine (laws_markText.calls k1 (wrap64 ((wrap64 ((wrap64 ((wrap64 ((wrap64 (x1_1 + 1)) + 1)) + 1)) + 1)) + 1)) t347 _ A10.out).mono ?_); rintro e w25 ⟨rfl, hb⟩; refine ⟨_, rfl, ?_⟩; replace HO_0 := Ad_.mk (Rb_ HO_0.out hb); replace HK := Ad_.mk (Kept.below (S := (fun k_ => P0_ k_)) (by repeat (first | (with_reducible first | exact HK.out | apply Kept.alloc | apply Kept.drewN | apply Kept.drew) | exact HK.out)) hb); replace HB := Ad_.mk (bQ_ HB.out hb); (try clear hb); have p11 : 0 ≤ (x5_1 : Int) := od_; have q11 : (x5_1 : Int) < ((x0_1.length : Int) : Int) := od_; obtain ⟨ce11, hcl11, hM11, hcc11, hfr11⟩ := Kd.R_elem HO_0.out z55 (x5_1 : Int) p11 q11; obtain rfl := k55_openM hM11; have hx11_0 : w25.cell? ⟨go5, (x5_1 : Int).toNat * 7, none⟩ = some (.int .i64 ((rd_T55 y346 x5_1).f0)) := hcc11 0 _ rfl; have hx11_1 : w25.cell? ⟨go5, (x5_1 : Int).toNat * 7 + 1, none⟩ = some (.int .i64 ((rd_T55 y346 x5_1).f1)) := hcc11 1 _ rfl; have hx11_2 : w25.cell? ⟨go5, (x5_1 : Int).toNat * 7 + 2, none⟩ = some (.int .i64 ((rd_T55 y346 x5_1).f2)) := hcc11 2 _ rfl; have hx11_3 : w25.cell? ⟨go5, (x5_1 : Int).toNat * 7 + 3, none⟩ = some (.int .i64 ((rd_T55 y346 x5_1).f3)) := hcc11 3 _ rfl; have hx11_4 : w25.cell? ⟨go5, (x5_1 : Int).toNat * 7 + 4, none⟩ = some (.int .i64 ((rd_T55 y346 x5_1).f4)) := hcc11 4 _ rfl; have hx11_5 : w25.cell? ⟨go5, (x5_1 : Int).toNat * 7 + 5, none⟩ = some (.string ((rd_T55 y346 x5_1).f5)) := hcc11 5 _ rfl; have hx11_6 : w25.cell? ⟨go5, (x5_1 : Int).toNat * 7 + 6, none⟩ = some (.string ((rd_T55 y346 x5_1).f6)) := hcc11 6 _ rfl; have hf11_0 : w25.frozen? ⟨go5, (x5_1 : Int).toNat * 7, none⟩ = false := hfr11 0; have hf11_1 : w25.frozen? ⟨go5, (x5_1 : Int).toNat * 7 + 1, none⟩ = false := hfr11 1; have hf11_2 : w25.frozen? ⟨go5, (x5_1 : Int).toNat * 7 + 2, none⟩ = false := hfr11 2; have hf11_3 : w25.frozen? ⟨go5, (x5_1 : Int).toNat * 7 + 3, none⟩ = false := hfr11 3; have hf11_4 : w25.frozen? ⟨go5, (x5_1 : Int).toNat * 7 + 4, none⟩ = false := hfr11 4; have hf11_5 : w25.frozen? ⟨go5, (x5_1 : Int).toNat * 7 + 5, none⟩ = false := hfr11 5; have hf11_6 : w25.frozen? ⟨go5, (x5_1 : Int).toNat * 7 + 6, none⟩ = false := hfr11 6; clear hcl11 hcc11 hfr11 hM11; replace p11 := eq_true p11; replace q11 := eq_true q11; have HX26 := Ad_.mk (show Kd.R k55 55 w25 w0.heap.size (fun k_ => (P0_ k_ ∨ w.heap.size ≤ k_)) (.slice (some ⟨go5, 0, none⟩) x0_1.length co14) y346 from (Ro_ HO_0.out)); obtain ⟨ce26, hcl26, hM26, hcc26, hfr26⟩ := Kd.R_elem HX26.out z55 (x5_1 : Int) (od_) (by have h_ : (x5_1 : Int) < ((x0_1.length : Int) : Int) := od_; first | exact h_ | (have e_ := (Kd.R_reads' HO_0.out).1; omega) | simpa using h_); obtain rfl := k55_openM hM26; have HP26 := Kd.R_seg HX26.out (x5_1 : Int) (od_) (by have h_ : (x5_1 : Int) < ((x0_1.length : Int) : Int) := od_; first | exact h_ | (have e_ := (Kd.R_reads' HO_0.out).1; omega) | simpa using h_) (seg := [.string t347]) (j := 5) hcl26 hcc26 (show 6 ≤ 7 from by decide) (x' := (⟨(rd_T55 y346 x5_1).f0, (rd_T55 y346 x5_1).f1, (rd_T55 y346 x5_1).f2, (rd_T55 y346 x5_1).f3, (rd_T55 y346 x5_1).f4, t347, (rd_T55 y346 x5_1).f6⟩ : S55)) (k55_mkM _ _ _ (⟨(rd_T55 y346 x5_1).f0, (rd_T55 y346 x5_1).f1, (rd_T55 y346 x5_1).f2, (rd_T55 y346 x5_1).f3, (rd_T55 y346 x5_1).f4, t347, (rd_T55 y346 x5_1).f6⟩ : S55) ) (fun _ hk => hk); have hx26_5 := hcc26 5 _ rfl; (try simp only [show (k55).sz = 7 from rfl, Nat.mul_one, Nat.add_zero] at hx26_5); have hf26_5 := hfr26 5; (try simp only [show (k55).sz = 7 from rfl, Nat.mul_one, Nat.add_zero] at hf26_5); clear hcl26 hcc26 hfr26 hM26) | ((with_reducible refine gate_store (t := 9) (p := 52) rfl ?_); refine store_event (t := 9) (p := 52) (v := ?vo_w27) (w1 := (w25.setCell ⟨go5, (x5_1 : Int).toNat * 7 + 5, none⟩ (.string t347))) ?hg ?ho ?hn ?hr ?_; (case ho => rfl); (case hg => rfl); (case hn => rfl); (case hr => first | (go_simp; done) | (go_simp; rfl)); intro w27 hw; have hg : w25.grownBy w27 (some go5) := (by rw [hw]; exact HP26.2); have hp_ : Kd.R k55 55 w27 w0.heap.size (fun k_ => (P0_ k_ ∨ w.heap.size ≤ k_)) (.slice (some ⟨go5, 0, none⟩) x0_1.length co14) y348 := (by rw [hw, Ny348.out]; exact HP26.1); clear HP26; have n0_ := Ad_.mk (hp_); have n1_ := Ad_.mk ((by rw [hw]; exact bS_ (HB.out) GB5.out : Below w0.heap.size w0 w27)); have n2_ := Ad_.mk (Kept.of_grown (S := (fun k_ => P0_ k_)) hg (by repeat (first | (with_reducible first | exact HK.out | apply Kept.alloc | apply Kept.drewN | apply Kept.drew) | exact HK.out)) (fun k_ e_ => (HO_0.out.1 k_ e_))); clear HO_0; clear HB; clear HK; have HO_0 := n0_; have HB := n1_; have HK := n2_; clear n0_ n1_ n2_; clear hg hw hp_) | ((with_reducible refine gC_ (f := 76) rfl ?_); refine gM_ (some 58) rfl rfl Tryd.func76 (by kernel_rfl) rfl #[.int .i64 (wrap64 ((wrap64 ((wrap64 ((wrap64 ((wrap64 ((wrap64 (x1_1 + 1)) + 1)) + 1)) + 1)) + 1)) + 1))] rfl ?_; (with_reducible refine (laws_markText.calls k1 (wrap64 ((wrap64 ((wrap64 ((wrap64 ((wrap64 ((wrap64 (x1_1 + 1)) + 1)) + 1)) + 1)) + 1)) + 1)) t349 _ A12.out).mono ?_); rintro e w28 ⟨rfl, hb⟩; refine ⟨_, rfl, ?_⟩; replace HO_0 := Ad_.mk (Rb_ HO_0.out hb); replace HK := Ad_.mk (Kept.below (S := (fun k_ => P0_ k_)) (by repeat (first | (with_reducible first | exact HK.out | apply Kept.alloc | apply Kept.drewN | apply Kept.drew) | exact HK.out)) hb); replace HB := Ad_.mk (bQ_ HB.out hb); (try clear hb); have p13 : 0 ≤ (x5_1 : Int) := od_; have q13 : (x5_1 : Int) < ((x0_1.length : Int) : Int) := od_; obtain ⟨ce13, hcl13, hM13, hcc13, hfr13⟩ := Kd.R_elem HO_0.out z55 (x5_1 : Int) p13 q13; obtain rfl := k55_openM hM13; have hx13_0 : w28.cell? ⟨go5, (x5_1 : Int).toNat * 7, none⟩ = some (.int .i64 ((rd_T55 y348 x5_1).f0)) := hcc13 0 _ rfl; have hx13_1 : w28.cell? ⟨go5, (x5_1 : Int).toNat * 7 + 1, none⟩ = some (.int .i64 ((rd_T55 y348 x5_1).f1)) := hcc13 1 _ rfl; have hx13_2 : w28.cell? ⟨go5, (x5_1 : Int).toNat * 7 + 2, none⟩ = some (.int .i64 ((rd_T55 y348 x5_1).f2)) := hcc13 2 _ rfl; have hx13_3 : w28.cell? ⟨go5, (x5_1 : Int).toNat * 7 + 3, none⟩ = some (.int .i64 ((rd_T55 y348 x5_1).f3)) := hcc13 3 _ rfl; have hx13_4 : w28.cell? ⟨go5, (x5_1 : Int).toNat * 7 + 4, none⟩ = some (.int .i64 ((rd_T55 y348 x5_1).f4)) := hcc13 4 _ rfl; have hx13_5 : w28.cell? ⟨go5, (x5_1 : Int).toNat * 7 + 5, none⟩ = some (.string ((rd_T55 y348 x5_1).f5)) := hcc13 5 _ rfl; have hx13_6 : w28.cell? ⟨go5, (x5_1 : Int).toNat * 7 + 6, none⟩ = some (.string ((rd_T55 y348 x5_1).f6)) := hcc13 6 _ rfl; have hf13_0 : w28.frozen? ⟨go5, (x5_1 : Int).toNat * 7, none⟩ = false := hfr13 0; have hf13_1 : w28.frozen? ⟨go5, (x5_1 : Int).toNat * 7 + 1, none⟩ = false := hfr13 1; have hf13_2 : w28.frozen? ⟨go5, (x5_1 : Int).toNat * 7 + 2, none⟩ = false := hfr13 2; have hf13_3 : w28.frozen? ⟨go5, (x5_1 : Int).toNat * 7 + 3, none⟩ = false := hfr13 3; have hf13_4 : w28.frozen? ⟨go5, (x5_1 : Int).toNat * 7 + 4, none⟩ = false := hfr13 4; have hf13_5 : w28.frozen? ⟨go5, (x5_1 : Int).toNat * 7 + 5, none⟩ = false := hfr13 5; have hf13_6 : w28.frozen? ⟨go5, (x5_1 : Int).toNat * 7 + 6, none⟩ = false := hfr13 6; clear hcl13 hcc13 hfr13 hM13; replace p13 := eq_true p13; replace q13 := eq_true q13; have HX29 := Ad_.mk (show Kd.R k55 55 w28 w0.heap.size (fun k_ => (P0_ k_ ∨ w.heap.size ≤ k_)) (.slice (some ⟨go5, 0, none⟩) x0_1.length co14) y348 from (Ro_ HO_0.out)); obtain ⟨ce29, hcl29, hM29, hcc29, hfr29⟩ := Kd.R_elem HX29.out z55 (x5_1 : Int) (od_) (by have h_ : (x5_1 : Int) < ((x0_1.length : Int) : Int) := od_; first | exact h_ | (have e_ := (Kd.R_reads' HO_0.out).1; omega) | simpa using h_); obtain rfl := k55_openM hM29; have HP29 := Kd.R_seg HX29.out (x5_1 : Int) (od_) (by have h_ : (x5_1 : Int) < ((x0_1.length : Int) : Int) := od_; first | exact h_ | (have e_ := (Kd.R_reads' HO_0.out).1; omega) | simpa using h_) (seg := [.string t349]) (j := 6) hcl29 hcc29 (show 7 ≤ 7 from by decide) (x' := (⟨(rd_T55 y348 x5_1).f0, (rd_T55 y348 x5_1).f1, (rd_T55 y348 x5_1).f2, (rd_T55 y348 x5_1).f3, (rd_T55 y348 x5_1).f4, (rd_T55 y348 x5_1).f5, t349⟩ : S55)) (k55_mkM _ _ _ (⟨(rd_T55 y348 x5_1).f0, (rd_T55 y348 x5_1).f1, (rd_T55 y348 x5_1).f2, (rd_T55 y348 x5_1).f3, (rd_T55 y348 x5_1).f4, (rd_T55 y348 x5_1).f5, t349⟩ : S55) ) (fun _ hk => hk); have hx29_6 := hcc29 6 _ rfl; (try simp only [show (k55).sz = 7 from rfl, Nat.mul_one, Nat.add_zero] at hx29_6); have hf29_6 := hfr29 6; (try simp only [show (k55).sz = 7 from rfl, Nat.mul_one, Nat.add_zero] at hf29_6); clear hcl29 hcc29 hfr29 hM29) | ((with_reducible refine gate_store (t := 9) (p := 60) rfl ?_); refine store_event (t := 9) (p := 60) (v := ?vo_w30) (w1 := (w28.setCell ⟨go5, (x5_1 : Int).toNat * 7 + 6, none⟩ (.string t349))) ?hg ?ho ?hn ?hr ?_; (case ho => rfl); (case hg => rfl); (case hn => rfl); (case hr => first | (go_simp; done) | (go_simp; rfl)); intro w30 hw; have hg : w28.grownBy w30 (some go5) := (by rw [hw]; exact HP29.2); have hp_ : Kd.R k55 55 w30 w0.heap.size (fun k_ => (P0_ k_ ∨ w.heap.size ≤ k_)) (.slice (some ⟨go5, 0, none⟩) x0_1.length co14) y350 := (by rw [hw, Ny350.out]; exact HP29.1); clear HP29; have n0_ := Ad_.mk (hp_); have n1_ := Ad_.mk ((by rw [hw]; exact bS_ (HB.out) GB5.out : Below w0.heap.size w0 w30)); have n2_ := Ad_.mk (Kept.of_grown (S := (fun k_ => P0_ k_)) hg (by repeat (first | (with_reducible first | exact HK.out | apply Kept.alloc | apply Kept.drewN | apply Kept.drew) | exact HK.out)) (fun k_ e_ => (HO_0.out.1 k_ e_))); clear HO_0; clear HB; clear HK; have HO_0 := n0_; have HB := n1_; have HK := n2_; clear n0_ n1_ n2_; clear hg hw hp_))
      go_roundg k1
      case measure => have := HK1.out; omega
      case rel => exact ⟨(y350), (wrap64 ((wrap64 ((wrap64 ((wrap64 ((wrap64 ((wrap64 ((wrap64 (x1_1 + 1)) + 1)) + 1)) + 1)) + 1)) + 1)) + 1)), (wrap64 (x5_1 + 1)), fs_, fs_, H', ⟨by have := HK1.out; omega⟩, ⟨Ro_ HO_0.out⟩, ⟨by repeat (first | (with_reducible first | exact HK.out | apply Kept.alloc | apply Kept.drewN | apply Kept.drew) | exact HK.out)⟩, ⟨Bn_ HB.out⟩⟩
end Go.Proofs.YtfmlamheflbgdaaDoor.PAll
end
section
namespace Go.Proofs.YtfmlamheflbgdaaDoor.PAll
open Go.RowKit Go.Proofs.YtfmlamheflbgdaaDoorW.PrintWords Go.Proofs.YtfmlamheflbgdaaDoorW.PrintLast Go.Proofs.YtfmlamheflbgdaaDoorW.PrintMore
attribute [local go_sem] max2_int min2_int max_two min_two max_three min_three max_four min_four
set_option linter.unusedVariables false
set_option linter.unusedSimpArgs false
mutual
def impl_Arity.j0 : Nat → Int → Bool → Option (Int)
  | 0, _, _ => none
  | k + 1, x3, x4 => if x4 = true then (some 1) else (if x3 = 4 then (impl_Arity.j1 k x3 (x3 == 4)) else (if x3 = 5 then (impl_Arity.j1 k x3 (x3 == 5)) else (if x3 = 6 then (impl_Arity.j1 k x3 (x3 == 6)) else (if x3 = 8 then (impl_Arity.j1 k x3 (x3 == 8)) else (if x3 = 9 then (impl_Arity.j1 k x3 (x3 == 9)) else (if x3 = 13 then (impl_Arity.j1 k x3 (x3 == 13)) else (if x3 = 17 then (impl_Arity.j1 k x3 (x3 == 17)) else (impl_Arity.j1 k x3 (x3 == 19)))))))))
def impl_Arity.j1 : Nat → Int → Bool → Option (Int)
  | 0, _, _ => none
  | k + 1, x3, x11 => if x11 = true then (some 2) else (if x3 = 7 then (some 3) else (if x3 = 14 then (some 3) else (some 0)))
end
def impl_Arity.f (k : Nat) (a0 : Int) : Option (Int) := if a0 = 3 then (impl_Arity.j0 k a0 (a0 == 3)) else (if a0 = 10 then (impl_Arity.j0 k a0 (a0 == 10)) else (if a0 = 11 then (impl_Arity.j0 k a0 (a0 == 11)) else (if a0 = 15 then (impl_Arity.j0 k a0 (a0 == 15)) else (if a0 = 16 then (impl_Arity.j0 k a0 (a0 == 16)) else (impl_Arity.j0 k a0 (a0 == 18))))))
set_option maxHeartbeats 8000000 in
set_option maxRecDepth 100000 in
theorem impl_Arity.calls (k : Nat) (a0 : Int) (r : Int) (w : World) (h : impl_Arity.f k a0 = some r) :
    Calls Tryd.prog 98 #[.int .i64 a0] w fun e w' => e = .returned (.int .i64 r) ∧ Drawn0 w w' := by
  have H := h
  unfold impl_Arity.f at H
  clear h
  have HC2 := Ad_.mk H
  clear H
  go_enter Tryd.func98, Tryd.ntmps98
  go_upto_if 4 with (fail)
  go_cut [4] (fun v4 wc => ∃ (kq : Nat) (x4_1 : Bool), v4 = .bool x4_1 ∧ Ad_ (impl_Arity.j0 kq a0 x4_1 = some r) ∧ Ad_ (kq ≤ k) ∧ Drawn0 w wc)
  case first =>
    have H := HC2.out
    clear HC2
    by_cases c3 : a0 = 3
    ·
     rw [if_pos c3] at H
     have c3b0 : (a0 == 3) = true := beq_iff_eq.mpr c3
     have c3b1 : (a0 != 3) = false := bne_eq_false_iff_eq.mpr c3
     clear c3
     (first | rw [c3b0] | (simp only [i64_w, i32_w]; rw [c3b0]) | skip)
     have H' := Ad_.mk H
     clear H
     go_wp2
     go_meet
     case rel => exact ⟨_, ((a0 == 3)), fs_, H', ⟨by first | omega | exact Nat.le_refl _⟩, by repeat (first | exact Drawn0.refl _ | apply Drawn0.step)⟩
    rw [if_neg c3] at H
    have c3b0 : (a0 == 3) = false := beq_eq_false_iff_ne.mpr c3
    have c3b1 : (a0 != 3) = true := bne_iff_ne.mpr c3
    (first | rw [c3b0] | (simp only [i64_w, i32_w]; rw [c3b0]) | skip)
    by_cases c4 : a0 = 10
    ·
     rw [if_pos c4] at H
     have c4b0 : (a0 == 10) = true := beq_iff_eq.mpr c4
     have c4b1 : (a0 != 10) = false := bne_eq_false_iff_eq.mpr c4
     clear c4
     have H' := Ad_.mk H
     clear H
     go_wp2
     go_meet
     case rel => exact ⟨_, ((a0 == 10)), fs_, H', ⟨by first | omega | exact Nat.le_refl _⟩, by repeat (first | exact Drawn0.refl _ | apply Drawn0.step)⟩
    rw [if_neg c4] at H
    have c4b0 : (a0 == 10) = false := beq_eq_false_iff_ne.mpr c4
    have c4b1 : (a0 != 10) = true := bne_iff_ne.mpr c4
    by_cases c5 : a0 = 11
    ·
     rw [if_pos c5] at H
     have c5b0 : (a0 == 11) = true := beq_iff_eq.mpr c5
     have c5b1 : (a0 != 11) = false := bne_eq_false_iff_eq.mpr c5
     clear c5
     have H' := Ad_.mk H
     clear H
     go_wp2
     go_meet
     case rel => exact ⟨_, ((a0 == 11)), fs_, H', ⟨by first | omega | exact Nat.le_refl _⟩, by repeat (first | exact Drawn0.refl _ | apply Drawn0.step)⟩
    rw [if_neg c5] at H
    have c5b0 : (a0 == 11) = false := beq_eq_false_iff_ne.mpr c5
    have c5b1 : (a0 != 11) = true := bne_iff_ne.mpr c5
    by_cases c6 : a0 = 15
    ·
     rw [if_pos c6] at H
     have c6b0 : (a0 == 15) = true := beq_iff_eq.mpr c6
     have c6b1 : (a0 != 15) = false := bne_eq_false_iff_eq.mpr c6
     clear c6
     have H' := Ad_.mk H
     clear H
     go_wp2
     go_meet
     case rel => exact ⟨_, ((a0 == 15)), fs_, H', ⟨by first | omega | exact Nat.le_refl _⟩, by repeat (first | exact Drawn0.refl _ | apply Drawn0.step)⟩
    rw [if_neg c6] at H
    have c6b0 : (a0 == 15) = false := beq_eq_false_iff_ne.mpr c6
    have c6b1 : (a0 != 15) = true := bne_iff_ne.mpr c6
    by_cases c7 : a0 = 16
    rotate_left
    ·
     rw [if_neg c7] at H
     have c7b0 : (a0 == 16) = false := beq_eq_false_iff_ne.mpr c7
     have c7b1 : (a0 != 16) = true := bne_iff_ne.mpr c7
     have H' := Ad_.mk H
     clear H
     go_wp2
     go_meet
     case rel => exact ⟨_, ((a0 == 18)), fs_, H', ⟨by first | omega | exact Nat.le_refl _⟩, by repeat (first | exact Drawn0.refl _ | apply Drawn0.step)⟩
    rw [if_pos c7] at H
    have c7b0 : (a0 == 16) = true := beq_iff_eq.mpr c7
    have c7b1 : (a0 != 16) = false := bne_eq_false_iff_eq.mpr c7
    clear c7
    have H' := Ad_.mk H
    clear H
    go_wp2
    go_meet
    case rel => exact ⟨_, ((a0 == 16)), fs_, H', ⟨by first | omega | exact Nat.le_refl _⟩, by repeat (first | exact Drawn0.refl _ | apply Drawn0.step)⟩
  case rest =>
    clear HC2
    try clear p2
    try clear c3b0 c3b1
    try clear c4b0 c4b1
    try clear c5b0 c5b1
    try clear c6b0 c6b1
    try clear c7b0 c7b1
    obtain ⟨kq, x4_1, rfl, HA, HJ1, ⟨mc1, rfl⟩⟩ := hcut
    cases kq with
    | zero => exact absurd HA.out (by simp [impl_Arity.j0])
    | succ kj1 =>
      have H := HA.out
      clear HA
      simp only [impl_Arity.j0] at H
      by_cases c8 : x4_1 = true
      ·
       subst c8
       have H1 : (some 1) = some r := by rw [if_pos rfl] at H; exact H
       clear H
       have H := H1
       clear H1
       obtain rfl := Option.some.inj H
       go_wp2
       go_ret
       exact ⟨by first | rfl | (simp; done) | (simp [*]; done), by repeat (first | exact Drawn0.refl _ | apply Drawn0.step)⟩
      replace c8 := Bool.eq_false_iff.mpr c8
      subst c8
      have H1 : (if a0 = 4 then (impl_Arity.j1 kj1 a0 (a0 == 4)) else (if a0 = 5 then (impl_Arity.j1 kj1 a0 (a0 == 5)) else (if a0 = 6 then (impl_Arity.j1 kj1 a0 (a0 == 6)) else (if a0 = 8 then (impl_Arity.j1 kj1 a0 (a0 == 8)) else (if a0 = 9 then (impl_Arity.j1 kj1 a0 (a0 == 9)) else (if a0 = 13 then (impl_Arity.j1 kj1 a0 (a0 == 13)) else (if a0 = 17 then (impl_Arity.j1 kj1 a0 (a0 == 17)) else (impl_Arity.j1 kj1 a0 (a0 == 19))))))))) = some r := by rw [if_neg (show ¬ (false = true) by decide)] at H; exact H
      clear H
      have H := H1
      clear H1
      have HC9 := Ad_.mk H
      clear H
      go_upto_if 11 with (fail)
      go_cut [11] (fun v11 wc => ∃ (kq : Nat) (x11_8 : Bool), v11 = .bool x11_8 ∧ Ad_ (impl_Arity.j1 kq a0 x11_8 = some r) ∧ Ad_ (kq ≤ kj1) ∧ Drawn0 w wc)
      case first =>
        have H := HC9.out
        clear HC9
        by_cases c10 : a0 = 4
        ·
         rw [if_pos c10] at H
         have c10b0 : (a0 == 4) = true := beq_iff_eq.mpr c10
         have c10b1 : (a0 != 4) = false := bne_eq_false_iff_eq.mpr c10
         clear c10
         (first | rw [c10b0] | (simp only [i64_w, i32_w]; rw [c10b0]) | skip)
         have H' := Ad_.mk H
         clear H
         go_wp2
         go_meet
         case rel => exact ⟨_, ((a0 == 4)), fs_, H', ⟨by have := HJ1.out; first | omega | exact Nat.le_refl _⟩, by repeat (first | exact Drawn0.refl _ | apply Drawn0.step)⟩
        rw [if_neg c10] at H
        have c10b0 : (a0 == 4) = false := beq_eq_false_iff_ne.mpr c10
        have c10b1 : (a0 != 4) = true := bne_iff_ne.mpr c10
        (first | rw [c10b0] | (simp only [i64_w, i32_w]; rw [c10b0]) | skip)
        by_cases c11 : a0 = 5
        ·
         rw [if_pos c11] at H
         have c11b0 : (a0 == 5) = true := beq_iff_eq.mpr c11
         have c11b1 : (a0 != 5) = false := bne_eq_false_iff_eq.mpr c11
         clear c11
         have H' := Ad_.mk H
         clear H
         go_wp2
         go_meet
         case rel => exact ⟨_, ((a0 == 5)), fs_, H', ⟨by have := HJ1.out; first | omega | exact Nat.le_refl _⟩, by repeat (first | exact Drawn0.refl _ | apply Drawn0.step)⟩
        rw [if_neg c11] at H
        have c11b0 : (a0 == 5) = false := beq_eq_false_iff_ne.mpr c11
        have c11b1 : (a0 != 5) = true := bne_iff_ne.mpr c11
        by_cases c12 : a0 = 6
        ·
         rw [if_pos c12] at H
         have c12b0 : (a0 == 6) = true := beq_iff_eq.mpr c12
         have c12b1 : (a0 != 6) = false := bne_eq_false_iff_eq.mpr c12
         clear c12
         have H' := Ad_.mk H
         clear H
         go_wp2
         go_meet
         case rel => exact ⟨_, ((a0 == 6)), fs_, H', ⟨by have := HJ1.out; first | omega | exact Nat.le_refl _⟩, by repeat (first | exact Drawn0.refl _ | apply Drawn0.step)⟩
        rw [if_neg c12] at H
        have c12b0 : (a0 == 6) = false := beq_eq_false_iff_ne.mpr c12
        have c12b1 : (a0 != 6) = true := bne_iff_ne.mpr c12
        by_cases c13 : a0 = 8
        ·
         rw [if_pos c13] at H
         have c13b0 : (a0 == 8) = true := beq_iff_eq.mpr c13
         have c13b1 : (a0 != 8) = false := bne_eq_false_iff_eq.mpr c13
         clear c13
         have H' := Ad_.mk H
         clear H
         go_wp2
         go_meet
         case rel => exact ⟨_, ((a0 == 8)), fs_, H', ⟨by have := HJ1.out; first | omega | exact Nat.le_refl _⟩, by repeat (first | exact Drawn0.refl _ | apply Drawn0.step)⟩
        rw [if_neg c13] at H
        have c13b0 : (a0 == 8) = false := beq_eq_false_iff_ne.mpr c13
        have c13b1 : (a0 != 8) = true := bne_iff_ne.mpr c13
        by_cases c14 : a0 = 9
        ·
         rw [if_pos c14] at H
         have c14b0 : (a0 == 9) = true := beq_iff_eq.mpr c14
         have c14b1 : (a0 != 9) = false := bne_eq_false_iff_eq.mpr c14
         clear c14
         have H' := Ad_.mk H
         clear H
         go_wp2
         go_meet
         case rel => exact ⟨_, ((a0 == 9)), fs_, H', ⟨by have := HJ1.out; first | omega | exact Nat.le_refl _⟩, by repeat (first | exact Drawn0.refl _ | apply Drawn0.step)⟩
        rw [if_neg c14] at H
        have c14b0 : (a0 == 9) = false := beq_eq_false_iff_ne.mpr c14
        have c14b1 : (a0 != 9) = true := bne_iff_ne.mpr c14
        by_cases c15 : a0 = 13
        ·
         rw [if_pos c15] at H
         have c15b0 : (a0 == 13) = true := beq_iff_eq.mpr c15
         have c15b1 : (a0 != 13) = false := bne_eq_false_iff_eq.mpr c15
         clear c15
         have H' := Ad_.mk H
         clear H
         go_wp2
         go_meet
         case rel => exact ⟨_, ((a0 == 13)), fs_, H', ⟨by have := HJ1.out; first | omega | exact Nat.le_refl _⟩, by repeat (first | exact Drawn0.refl _ | apply Drawn0.step)⟩
        rw [if_neg c15] at H
        have c15b0 : (a0 == 13) = false := beq_eq_false_iff_ne.mpr c15
        have c15b1 : (a0 != 13) = true := bne_iff_ne.mpr c15
        by_cases c16 : a0 = 17
        rotate_left
        ·
         rw [if_neg c16] at H
         have c16b0 : (a0 == 17) = false := beq_eq_false_iff_ne.mpr c16
         have c16b1 : (a0 != 17) = true := bne_iff_ne.mpr c16
         have H' := Ad_.mk H
         clear H
         go_wp2
         go_meet
         case rel => exact ⟨_, ((a0 == 19)), fs_, H', ⟨by have := HJ1.out; first | omega | exact Nat.le_refl _⟩, by repeat (first | exact Drawn0.refl _ | apply Drawn0.step)⟩
        rw [if_pos c16] at H
        have c16b0 : (a0 == 17) = true := beq_iff_eq.mpr c16
        have c16b1 : (a0 != 17) = false := bne_eq_false_iff_eq.mpr c16
        clear c16
        have H' := Ad_.mk H
        clear H
        go_wp2
        go_meet
        case rel => exact ⟨_, ((a0 == 17)), fs_, H', ⟨by have := HJ1.out; first | omega | exact Nat.le_refl _⟩, by repeat (first | exact Drawn0.refl _ | apply Drawn0.step)⟩
      case rest =>
        clear HC9
        try clear p2
        try clear c3b0 c3b1
        try clear c4b0 c4b1
        try clear c5b0 c5b1
        try clear c6b0 c6b1
        try clear c7b0 c7b1
        try clear c10b0 c10b1
        try clear c11b0 c11b1
        try clear c12b0 c12b1
        try clear c13b0 c13b1
        try clear c14b0 c14b1
        try clear c15b0 c15b1
        try clear c16b0 c16b1
        try clear p2
        obtain ⟨kq, x11_8, rfl, HA, HJ8, ⟨mc8, rfl⟩⟩ := hcut
        cases kq with
        | zero => exact absurd HA.out (by simp [impl_Arity.j1])
        | succ kj8 =>
          have H := HA.out
          clear HA
          simp only [impl_Arity.j1] at H
          by_cases c17 : x11_8 = true
          ·
           subst c17
           have H1 : (some 2) = some r := by rw [if_pos rfl] at H; exact H
           clear H
           have H := H1
           clear H1
           obtain rfl := Option.some.inj H
           go_wp2
           go_ret
           exact ⟨by first | rfl | (simp; done) | (simp [*]; done), by repeat (first | exact Drawn0.refl _ | apply Drawn0.step)⟩
          replace c17 := Bool.eq_false_iff.mpr c17
          subst c17
          have H1 : (if a0 = 7 then (some 3) else (if a0 = 14 then (some 3) else (some 0))) = some r := by rw [if_neg (show ¬ (false = true) by decide)] at H; exact H
          clear H
          have H := H1
          clear H1
          by_cases c18 : a0 = 7
          ·
           rw [if_pos c18] at H
           have c18b0 : (a0 == 7) = true := beq_iff_eq.mpr c18
           have c18b1 : (a0 != 7) = false := bne_eq_false_iff_eq.mpr c18
           clear c18
           obtain rfl := Option.some.inj H
           go_wp2
           go_ret
           exact ⟨by first | rfl | (simp; done) | (simp [*]; done), by repeat (first | exact Drawn0.refl _ | apply Drawn0.step)⟩
          rw [if_neg c18] at H
          have c18b0 : (a0 == 7) = false := beq_eq_false_iff_ne.mpr c18
          have c18b1 : (a0 != 7) = true := bne_iff_ne.mpr c18
          by_cases c19 : a0 = 14
          rotate_left
          ·
           rw [if_neg c19] at H
           have c19b0 : (a0 == 14) = false := beq_eq_false_iff_ne.mpr c19
           have c19b1 : (a0 != 14) = true := bne_iff_ne.mpr c19
           obtain rfl := Option.some.inj H
           go_wp2
           go_ret
           exact ⟨by first | rfl | (simp; done) | (simp [*]; done), by repeat (first | exact Drawn0.refl _ | apply Drawn0.step)⟩
          rw [if_pos c19] at H
          have c19b0 : (a0 == 14) = true := beq_iff_eq.mpr c19
          have c19b1 : (a0 != 14) = false := bne_eq_false_iff_eq.mpr c19
          clear c19
          obtain rfl := Option.some.inj H
          go_wp2
          go_ret
          exact ⟨by first | rfl | (simp; done) | (simp [*]; done), by repeat (first | exact Drawn0.refl _ | apply Drawn0.step)⟩
end Go.Proofs.YtfmlamheflbgdaaDoor.PAll
end
section
namespace Go.Proofs.YtfmlamheflbgdaaDoor.PAll
open Go.RowKit Go.Proofs.YtfmlamheflbgdaaDoorW.PrintWords Go.Proofs.YtfmlamheflbgdaaDoorW.PrintLast Go.Proofs.YtfmlamheflbgdaaDoorW.PrintMore
attribute [local go_sem] max2_int min2_int max_two min_two max_three min_three max_four min_four
set_option linter.unusedVariables false
set_option linter.unusedSimpArgs false
def impl_Kids.f (k : Nat) (a0_0 : Int) (a0_1 : Int) (a0_2 : Int) (a0_3 : Int) (a0_4 : Int) (a0_5 : ByteArray) (a0_6 : ByteArray) : Option (List Int) := (some (([a0_1, a0_2, a0_3] : List Int) : List Int)).bind fun y201 => ((impl_Arity.f k a0_0).bind fun t204 => ((impl_Arity.f k a0_0).bind fun t205 => (if 0 ≤ t204 then (if t204 ≤ t205 then (if t205 ≤ (y201.length : Int) then (some (y201.take (t204 : Int).toNat)) else (none)) else (none)) else (none))))
def impl_Kids.T1 : Bool × List (List Nat × List Nat) := (true, [([], []), ([0], [0]), ([], []), ([2], [2]), ([], []), ([4], [4]), ([1, 3, 5], [1, 3, 5]), ([], []), ([7], [7]), ([8], [8]), ([], []), ([10], [10]), ([11, 9], [11]), ([6, 9, 12], [6, 9, 12]), ([13, 12, 0, 1, 2, 3, 4, 5, 6, 7, 8, 9, 10, 11, 12, 13], [13])])
def impl_Kids.B1 : List Nat := [0, 1, 0, 4, 0, 16, 63, 0, 128, 384, 0, 1024, 3968, 8191, 16383]
theorem impl_Kids.tab1 : rtab .any (opsOf Tryd.f56 1) = impl_Kids.T1 := by kernel_rfl
theorem impl_Kids.bits1 : waitsOk impl_Kids.T1.2 impl_Kids.B1 = true := by kernel_rfl
set_option maxHeartbeats 8000000 in
set_option maxRecDepth 100000 in
theorem impl_Kids.calls (k : Nat) (a0_0 : Int) (a0_1 : Int) (a0_2 : Int) (a0_3 : Int) (a0_4 : Int) (a0_5 : ByteArray) (a0_6 : ByteArray) (r : List Int) (w : World) (h : impl_Kids.f k a0_0 a0_1 a0_2 a0_3 a0_4 a0_5 a0_6 = some r) :
    Calls Tryd.prog 56 #[.agg #[.int .i64 a0_0, .int .i64 a0_1, .int .i64 a0_2, .int .i64 a0_3, .int .i64 a0_4, .string a0_5, .string a0_6]] w fun e w' => ∃ v0_ : Value, e = .returned (v0_) ∧ Kd.V (Kd.int .i64) 3 w' w.heap.size (fun k_ => (w.heap.size ≤ k_)) v0_ r ∧ Below w.heap.size w w' := by
  have hu55 := Tryd.underlying55
  have HB := Ad_.mk (Below.refl w.heap.size w)
  have H := h
  unfold impl_Kids.f at H
  clear h
  obtain ⟨y201, hy201⟩ : ∃ y_ : List Int, y_ = (([a0_1, a0_2, a0_3] : List Int)) := ⟨_, rfl⟩
  replace H : ((impl_Arity.f k a0_0).bind fun t204 => ((impl_Arity.f k a0_0).bind fun t205 => (if 0 ≤ t204 then (if t204 ≤ t205 then (if t205 ≤ (y201.length : Int) then (some (y201.take (t204 : Int).toNat)) else (none)) else (none)) else (none)))) = some r := by first | (rw [hy201]; with_reducible exact H) | (have H2_ := (Option.bind_some _ _).symm.trans H; rw [hy201]; with_reducible exact H2_) | (have H2_ := (Option.bind_some _ _).symm.trans H; with_reducible exact H2_) | with_reducible exact H | (rw [hy201]; exact H) | exact H
  have Ny201 := Ad_.mk hy201
  clear hy201
  replace H := Option.bind_eq_some_iff.mp H
  obtain ⟨t204, A20, H⟩ := H
  try dsimp only at H
  have A2 := Ad_.mk A20
  clear A20
  replace H := Option.bind_eq_some_iff.mp H
  obtain ⟨t205, A30, H⟩ := H
  try dsimp only at H
  have A3 := Ad_.mk A30
  clear A30
  by_cases c4 : 0 ≤ t204
  rotate_left
  ·
   rw [if_neg c4] at H
   exact absurd H (by simp)
  rw [if_pos c4] at H
  have c4b0 := eq_true c4
  have c4b1 := decide_eq_true c4
  clear c4
  by_cases c5 : t204 ≤ t205
  rotate_left
  ·
   rw [if_neg c5] at H
   exact absurd H (by simp)
  rw [if_pos c5] at H
  have c5b0 := eq_true c5
  have c5b1 := decide_eq_true c5
  clear c5
  by_cases c6 : t205 ≤ (y201.length : Int)
  rotate_left
  ·
   rw [if_neg c6] at H
   exact absurd H (by simp)
  rw [if_pos c6] at H
  have c6b0 := eq_true c6
  have c6b1 := decide_eq_true c6
  clear c6
  obtain ⟨y206, hy206⟩ : ∃ y_ : List Int, y_ = (y201.take (t204 : Int).toNat) := ⟨_, rfl⟩
  replace H : (some y206) = some r := by first | (rw [hy206]; with_reducible exact H) | (have H2_ := (Option.bind_some _ _).symm.trans H; rw [hy206]; with_reducible exact H2_) | (have H2_ := (Option.bind_some _ _).symm.trans H; with_reducible exact H2_) | with_reducible exact H | (rw [hy206]; exact H) | exact H
  have Ny206 := Ad_.mk hy206
  clear hy206
  obtain rfl := Option.some.inj H
  go_enter Tryd.func56, Tryd.ntmps56
  try go_wp2_with (first | ((with_reducible refine gD_ (N := 1) rfl ?_); refine bE_ ?hg (N := 1) ?hd (cs := #[.int .i64 a0_0, .int .i64 a0_1, .int .i64 a0_2, .int .i64 a0_3, .int .i64 a0_4, .string a0_5, .string a0_6]) (t := 55) ?hr ?_; (case hd => rfl); (case hg => rfl); (case hr => first | (go_simp; done) | (go_simp; rfl)); intro gb200 hg w7 hbox hb; have n0_ := Ad_.mk (bQ_ HB.out hb); have n1_ := Ad_.mk (hbox); have n2_ := Ad_.mk ((by rw [hg]; exact (bZ_ (Bn_ HB.out)) : w.heap.size ≤ gb200)); have n3_ := Ad_.mk ((by rw [hg]; exact (bZ_ (Bn_ HB.out)) : w.heap.size ≤ gb200)); clear HB; have HB := n0_; have BK200 := n1_; have GW200 := n2_; have GE200 := n3_; clear n0_ n1_ n2_ n3_; clear hb hbox hg))
  replace BK200 := Ad_.mk (k1_ BK200.out)
  replace HB := Ad_.mk (b1_ HB.out)
  refine start_ (n := 15) (S := fun w' => w'.cell? ⟨gb200, 0, none⟩ = some (.int .i64 a0_0) ∧ w'.cell? ⟨gb200, 1, none⟩ = some (.int .i64 a0_1) ∧ w'.cell? ⟨gb200, 2, none⟩ = some (.int .i64 a0_2) ∧ w'.cell? ⟨gb200, 3, none⟩ = some (.int .i64 a0_3) ∧ w'.cell? ⟨gb200, 4, none⟩ = some (.int .i64 a0_4) ∧ w'.cell? ⟨gb200, 5, none⟩ = some (.string a0_5) ∧ w'.cell? ⟨gb200, 6, none⟩ = some (.string a0_6)) (ds := []) #[Z,Z,Z,Z,Z,Z,Z,Z,Z,Z,Z,Z,Z,Z,Z] (by kernel_rfl) rfl rfl ⟨(kC_ BK200.out 0).trans rfl, (kC_ BK200.out 1).trans rfl, (kC_ BK200.out 2).trans rfl, (kC_ BK200.out 3).trans rfl, (kC_ BK200.out 4).trans rfl, (kC_ BK200.out 5).trans rfl, (kC_ BK200.out 6).trans rfl⟩ (fun hHeld => ?_); refine with_tabW impl_Kids.tab1 impl_Kids.bits1 (fun HT_ HW_ => ?_)
  generalize w7.drew = w8 at BK200 HB hHeld ⊢
  refine pu_ (i := 0) (N := some 3) #[Y,Z,Z,Z,Z,Z,Z,Z,Z,Z,Z,Z,Z,Z,Z] ?_
  refine pu_ (i := 2) (N := some 5) #[Y,Z,Y,Z,Z,Z,Z,Z,Z,Z,Z,Z,Z,Z,Z] ?_
  refine pu_ (i := 4) (N := some 7) #[Y,Z,Y,Z,Y,Z,Z,Z,Z,Z,Z,Z,Z,Z,Z] ?_
  refine pu_ (i := 7) (N := some 10) #[Y,Z,Y,Z,Y,Z,Z,Y,Z,Z,Z,Z,Z,Z,Z] ?_
  refine pu_ (i := 10) (N := some 13) #[Y,Z,Y,Z,Y,Z,Z,Y,Z,Z,Y,Z,Z,Z,Z] ?_
  refine tk_ (i := 1) (N := some 4) (v := ?_) (a' := ?_) #[Y,Y,Y,Z,Y,Z,Z,Y,Z,Z,Y,Z,Z,Z,Z] ?_ hHeld ?_ ?_
  rotate_left
  ·
   rintro w' ⟨s0, s1, s2, s3, s4, s5, s6⟩
   go_simp
   with_reducible rfl
  rotate_left
  ·
   simp only [Act.put, List.setIfInBounds_toArray, List.set_cons_zero, List.set_cons_succ, i64_w, i32_w]
   rfl
  refine tk_ (i := 3) (N := some 6) (v := ?_) (a' := ?_) #[Y,Y,Y,Y,Y,Z,Z,Y,Z,Z,Y,Z,Z,Z,Z] ?_ hHeld ?_ ?_
  rotate_left
  ·
   rintro w' ⟨s0, s1, s2, s3, s4, s5, s6⟩
   go_simp
   with_reducible rfl
  rotate_left
  ·
   simp only [Act.put, List.setIfInBounds_toArray, List.set_cons_zero, List.set_cons_succ, i64_w, i32_w]
   rfl
  refine tk_ (i := 5) (N := some 8) (v := ?_) (a' := ?_) #[Y,Y,Y,Y,Y,Y,Z,Y,Z,Z,Y,Z,Z,Z,Z] ?_ hHeld ?_ ?_
  rotate_left
  ·
   rintro w' ⟨s0, s1, s2, s3, s4, s5, s6⟩
   go_simp
   with_reducible rfl
  rotate_left
  ·
   simp only [Act.put, List.setIfInBounds_toArray, List.set_cons_zero, List.set_cons_succ, i64_w, i32_w]
   rfl
  refine tk_ (i := 8) (N := some 11) (v := ?_) (a' := ?_) #[Y,Y,Y,Y,Y,Y,Z,Y,Y,Z,Y,Z,Z,Z,Z] ?_ hHeld ?_ ?_
  rotate_left
  ·
   rintro w' ⟨s0, s1, s2, s3, s4, s5, s6⟩
   go_simp
   with_reducible rfl
  rotate_left
  ·
   simp only [Act.put, List.setIfInBounds_toArray, List.set_cons_zero, List.set_cons_succ, i64_w, i32_w]
   rfl
  refine tk_ (i := 11) (N := some 14) (v := ?_) (a' := ?_) #[Y,Y,Y,Y,Y,Y,Z,Y,Y,Z,Y,Y,Z,Z,Z] ?_ hHeld ?_ ?_
  rotate_left
  ·
   rintro w' ⟨s0, s1, s2, s3, s4, s5, s6⟩
   go_simp
   with_reducible rfl
  rotate_left
  ·
   simp only [Act.put, List.setIfInBounds_toArray, List.set_cons_zero, List.set_cons_succ, i64_w, i32_w]
   rfl
  refine join_ (σ := Value) 2 #[Y,Y,Y,Y,Y,Y,Y,Y,Y,Y,Y,Y,Y,Z,Z] (fun s_ => [(9, s_), (12, .int .i64 t204), (15, .int .i64 t205)]) (fun s_ w' => (w'.cell? ⟨gb200, 0, none⟩ = some (.int .i64 a0_0) ∧ w'.cell? ⟨gb200, 1, none⟩ = some (.int .i64 a0_1) ∧ w'.cell? ⟨gb200, 2, none⟩ = some (.int .i64 a0_2) ∧ w'.cell? ⟨gb200, 3, none⟩ = some (.int .i64 a0_3) ∧ w'.cell? ⟨gb200, 4, none⟩ = some (.int .i64 a0_4) ∧ w'.cell? ⟨gb200, 5, none⟩ = some (.string a0_5) ∧ w'.cell? ⟨gb200, 6, none⟩ = some (.string a0_6)) ∧ (Kd.R (Kd.int .i64) 3 w' w.heap.size (fun k_ => (w.heap.size ≤ k_)) s_ y201) ∧ (w'.heap[gb200]? = some (.cells #[.int .i64 a0_0, .int .i64 a0_1, .int .i64 a0_2, .int .i64 a0_3, .int .i64 a0_4, .string a0_5, .string a0_6] 55 (0, 0))) ∧ (Below w.heap.size w w')) ?_ ?_
  rotate_left
  ·
   intro hCont
   refine two_ (i := 6) (j := 9) (Ni := some 9) (Nj := some 12) #[Y,Y,Y,Y,Y,Y,Y,Y,Y,Z,Y,Y,Z,Z,Z] #[Y,Y,Y,Y,Y,Y,Z,Y,Y,Y,Y,Y,Z,Z,Z] rfl rfl rfl rfl (two_of HT_.out (by kernel_rfl)) (by decide) (by decide) (fun K hK => ?_) (fun K hK => ?_)
   ·
    skip
    refine Kd.R_lit_step (Kd.int .i64) _ 3 ?hg (N := 9) ?hd (xs := ([a0_1, a0_2, a0_3] : List Int)) (inner := [.int .i64 a0_1, .int .i64 a0_2, .int .i64 a0_3]) (ok := fun _ => True) (okp := fun _ => True) ?hr ?hp (fun _ hk => hk) trivial (Below.refl _ _) (Nat.le_refl _) (by simp) ?_; (case hd => rfl); (case hg => rfl); (case hr => first | (go_simp; done) | (go_simp; rfl)); (case hp => exact (Reps.one (show Kd.M (Kd.int .i64) _ _ _ a0_1 [.int .i64 a0_1] from rfl) (Reps.one (show Kd.M (Kd.int .i64) _ _ _ a0_2 [.int .i64 a0_2] from rfl) (Reps.one (show Kd.M (Kd.int .i64) _ _ _ a0_3 [.int .i64 a0_3] from rfl) (Reps.none _ _)))))
    intro v202 w9 ho10 hb hg_ hnew_
    clear hg_ hnew_
    (first | rw [← Ny201.out] at ho10 | (simp only [Int.reduceToNat] at ho10; rw [← Ny201.out] at ho10))
    have n0_ := Ad_.mk (Kd.R_lower (Kd.R_newM (M := fun k_ => (w.heap.size ≤ k_)) ho10 (bZ_ (Bo_ HB.out GE200.out)) (fun k_ h_ => h_)) (bZ_ (Bo_ HB.out GE200.out)))
    have n1_ := Ad_.mk (blk_below (g := gb200) (o := .cells #[.int .i64 a0_0, .int .i64 a0_1, .int .i64 a0_2, .int .i64 a0_3, .int .i64 a0_4, .string a0_5, .string a0_6] 55 (0, 0)) (Ko_ BK200.out) hb)
    have n2_ := Ad_.mk (bP_ (Bo_ HB.out GE200.out) hb)
    clear BK200
    clear HB
    have HO203 := n0_
    have BK200 := n1_
    have HB := n2_
    clear n0_ n1_ n2_
    clear hb ho10
    refine hK.out _ _ ⟨(kC_ BK200.out 0).trans rfl, (kC_ BK200.out 1).trans rfl, (kC_ BK200.out 2).trans rfl, (kC_ BK200.out 3).trans rfl, (kC_ BK200.out 4).trans rfl, (kC_ BK200.out 5).trans rfl, (kC_ BK200.out 6).trans rfl⟩ (fun hHeld => ?_)
    clear hK K
    refine norm_ (a' := ?_) ?_ ?_
    rotate_left
    ·
     show Act.put _ (some 9) _ = _
     simp only [Act.put, List.setIfInBounds_toArray, List.set_cons_zero, List.set_cons_succ, i64_w, i32_w]
     rfl
    refine one_ (i := 9) (N := some 12) #[Y,Y,Y,Y,Y,Y,Y,Y,Y,Y,Y,Y,Z,Z,Z] rfl rfl (one_of HT_.out (by kernel_rfl)) (by decide) (fun K hK => ?_)
    refine goes_ Tryd.func98 (by kernel_rfl) rfl #[.int .i64 a0_0] (by rfl) rfl rfl (by (try simp only [List.map_toArray, List.map_cons, List.map_nil]); first | done | rfl | (simp only [List.length_drop, List.length_take]; rfl)) ?_
    with_reducible refine (impl_Arity.calls k a0_0 t204 _ A2.out).mono ?_
    rintro e w' ⟨rfl, ⟨nd, rfl⟩⟩
    refine ⟨_, rfl, ?_⟩
    refine hK.out _ _ ⟨(kC_ BK200.out 0).trans rfl, (kC_ BK200.out 1).trans rfl, (kC_ BK200.out 2).trans rfl, (kC_ BK200.out 3).trans rfl, (kC_ BK200.out 4).trans rfl, (kC_ BK200.out 5).trans rfl, (kC_ BK200.out 6).trans rfl⟩ (fun hHeld => ?_)
    clear hK K
    refine norm_ (a' := ?_) ?_ ?_
    rotate_left
    ·
     show Act.put _ (some 12) _ = _
     simp only [Act.put, List.setIfInBounds_toArray, List.set_cons_zero, List.set_cons_succ, i64_w, i32_w]
     rfl
    refine one_ (i := 12) (N := some 15) #[Y,Y,Y,Y,Y,Y,Y,Y,Y,Y,Y,Y,Y,Z,Z] rfl rfl (one_of HT_.out (by kernel_rfl)) (by decide) (fun K hK => ?_)
    refine goes_ Tryd.func98 (by kernel_rfl) rfl #[.int .i64 a0_0] (by rfl) rfl rfl (by (try simp only [List.map_toArray, List.map_cons, List.map_nil]); first | done | rfl | (simp only [List.length_drop, List.length_take]; rfl)) ?_
    with_reducible refine (impl_Arity.calls k a0_0 t205 _ A3.out).mono ?_
    rintro e w' ⟨rfl, ⟨nd, rfl⟩⟩
    refine ⟨_, rfl, ?_⟩
    refine hK.out _ _ ⟨(kC_ BK200.out 0).trans rfl, (kC_ BK200.out 1).trans rfl, (kC_ BK200.out 2).trans rfl, (kC_ BK200.out 3).trans rfl, (kC_ BK200.out 4).trans rfl, (kC_ BK200.out 5).trans rfl, (kC_ BK200.out 6).trans rfl⟩ (fun hHeld => ?_)
    clear hK K
    refine norm_ (a' := ?_) ?_ ?_
    rotate_left
    ·
     show Act.put _ (some 15) _ = _
     simp only [Act.put, List.setIfInBounds_toArray, List.set_cons_zero, List.set_cons_succ, i64_w, i32_w]
     rfl
    exact norm_ (by simp only [putAll, Act.put, List.setIfInBounds_toArray, List.set_cons_zero, List.set_cons_succ]) (hCont (v202) _ ⟨hHeld, (by (with_reducible repeat (first | apply Kd.R_alloc | apply Kd.R_drewN | apply Kd.R_drew)); exact Kd.R_mono HO203.out (fun _ hk => hk.1)), (Ko_ BK200.out), (Bo_ HB.out GE200.out)⟩)
   skip
   refine goes_ Tryd.func98 (by kernel_rfl) rfl #[.int .i64 a0_0] (by rfl) rfl rfl (by (try simp only [List.map_toArray, List.map_cons, List.map_nil]); first | done | rfl | (simp only [List.length_drop, List.length_take]; rfl)) ?_
   with_reducible refine (impl_Arity.calls k a0_0 t204 _ A2.out).mono ?_
   rintro e w' ⟨rfl, ⟨nd, rfl⟩⟩
   refine ⟨_, rfl, ?_⟩
   refine hK.out _ _ ⟨(kC_ BK200.out 0).trans rfl, (kC_ BK200.out 1).trans rfl, (kC_ BK200.out 2).trans rfl, (kC_ BK200.out 3).trans rfl, (kC_ BK200.out 4).trans rfl, (kC_ BK200.out 5).trans rfl, (kC_ BK200.out 6).trans rfl⟩ (fun hHeld => ?_)
   clear hK K
   refine norm_ (a' := ?_) ?_ ?_
   rotate_left
   ·
    show Act.put _ (some 12) _ = _
    simp only [Act.put, List.setIfInBounds_toArray, List.set_cons_zero, List.set_cons_succ, i64_w, i32_w]
    rfl
   refine two_ (i := 6) (j := 12) (Ni := some 9) (Nj := some 15) #[Y,Y,Y,Y,Y,Y,Y,Y,Y,Y,Y,Y,Z,Z,Z] #[Y,Y,Y,Y,Y,Y,Z,Y,Y,Y,Y,Y,Y,Z,Z] rfl rfl rfl rfl (two_of HT_.out (by kernel_rfl)) (by decide) (by decide) (fun K hK => ?_) (fun K hK => ?_)
   ·
    skip
    refine Kd.R_lit_step (Kd.int .i64) _ 3 ?hg (N := 9) ?hd (xs := ([a0_1, a0_2, a0_3] : List Int)) (inner := [.int .i64 a0_1, .int .i64 a0_2, .int .i64 a0_3]) (ok := fun _ => True) (okp := fun _ => True) ?hr ?hp (fun _ hk => hk) trivial (Below.refl _ _) (Nat.le_refl _) (by simp) ?_; (case hd => rfl); (case hg => rfl); (case hr => first | (go_simp; done) | (go_simp; rfl)); (case hp => exact (Reps.one (show Kd.M (Kd.int .i64) _ _ _ a0_1 [.int .i64 a0_1] from rfl) (Reps.one (show Kd.M (Kd.int .i64) _ _ _ a0_2 [.int .i64 a0_2] from rfl) (Reps.one (show Kd.M (Kd.int .i64) _ _ _ a0_3 [.int .i64 a0_3] from rfl) (Reps.none _ _)))))
    intro v202 w9 ho10 hb hg_ hnew_
    clear hg_ hnew_
    (first | rw [← Ny201.out] at ho10 | (simp only [Int.reduceToNat] at ho10; rw [← Ny201.out] at ho10))
    have n0_ := Ad_.mk (Kd.R_lower (Kd.R_newM (M := fun k_ => (w.heap.size ≤ k_)) ho10 (bZ_ (Bo_ HB.out GE200.out)) (fun k_ h_ => h_)) (bZ_ (Bo_ HB.out GE200.out)))
    have n1_ := Ad_.mk (blk_below (g := gb200) (o := .cells #[.int .i64 a0_0, .int .i64 a0_1, .int .i64 a0_2, .int .i64 a0_3, .int .i64 a0_4, .string a0_5, .string a0_6] 55 (0, 0)) (Ko_ BK200.out) hb)
    have n2_ := Ad_.mk (bP_ (Bo_ HB.out GE200.out) hb)
    clear BK200
    clear HB
    have HO203 := n0_
    have BK200 := n1_
    have HB := n2_
    clear n0_ n1_ n2_
    clear hb ho10
    refine hK.out _ _ ⟨(kC_ BK200.out 0).trans rfl, (kC_ BK200.out 1).trans rfl, (kC_ BK200.out 2).trans rfl, (kC_ BK200.out 3).trans rfl, (kC_ BK200.out 4).trans rfl, (kC_ BK200.out 5).trans rfl, (kC_ BK200.out 6).trans rfl⟩ (fun hHeld => ?_)
    clear hK K
    refine norm_ (a' := ?_) ?_ ?_
    rotate_left
    ·
     show Act.put _ (some 9) _ = _
     simp only [Act.put, List.setIfInBounds_toArray, List.set_cons_zero, List.set_cons_succ, i64_w, i32_w]
     rfl
    refine one_ (i := 12) (N := some 15) #[Y,Y,Y,Y,Y,Y,Y,Y,Y,Y,Y,Y,Y,Z,Z] rfl rfl (one_of HT_.out (by kernel_rfl)) (by decide) (fun K hK => ?_)
    refine goes_ Tryd.func98 (by kernel_rfl) rfl #[.int .i64 a0_0] (by rfl) rfl rfl (by (try simp only [List.map_toArray, List.map_cons, List.map_nil]); first | done | rfl | (simp only [List.length_drop, List.length_take]; rfl)) ?_
    with_reducible refine (impl_Arity.calls k a0_0 t205 _ A3.out).mono ?_
    rintro e w' ⟨rfl, ⟨nd, rfl⟩⟩
    refine ⟨_, rfl, ?_⟩
    refine hK.out _ _ ⟨(kC_ BK200.out 0).trans rfl, (kC_ BK200.out 1).trans rfl, (kC_ BK200.out 2).trans rfl, (kC_ BK200.out 3).trans rfl, (kC_ BK200.out 4).trans rfl, (kC_ BK200.out 5).trans rfl, (kC_ BK200.out 6).trans rfl⟩ (fun hHeld => ?_)
    clear hK K
    refine norm_ (a' := ?_) ?_ ?_
    rotate_left
    ·
     show Act.put _ (some 15) _ = _
     simp only [Act.put, List.setIfInBounds_toArray, List.set_cons_zero, List.set_cons_succ, i64_w, i32_w]
     rfl
    exact norm_ (by simp only [putAll, Act.put, List.setIfInBounds_toArray, List.set_cons_zero, List.set_cons_succ]) (hCont (v202) _ ⟨hHeld, (by (with_reducible repeat (first | apply Kd.R_alloc | apply Kd.R_drewN | apply Kd.R_drew)); exact Kd.R_mono HO203.out (fun _ hk => hk.1)), (Ko_ BK200.out), (Bo_ HB.out GE200.out)⟩)
   skip
   refine goes_ Tryd.func98 (by kernel_rfl) rfl #[.int .i64 a0_0] (by rfl) rfl rfl (by (try simp only [List.map_toArray, List.map_cons, List.map_nil]); first | done | rfl | (simp only [List.length_drop, List.length_take]; rfl)) ?_
   with_reducible refine (impl_Arity.calls k a0_0 t205 _ A3.out).mono ?_
   rintro e w' ⟨rfl, ⟨nd, rfl⟩⟩
   refine ⟨_, rfl, ?_⟩
   refine hK.out _ _ ⟨(kC_ BK200.out 0).trans rfl, (kC_ BK200.out 1).trans rfl, (kC_ BK200.out 2).trans rfl, (kC_ BK200.out 3).trans rfl, (kC_ BK200.out 4).trans rfl, (kC_ BK200.out 5).trans rfl, (kC_ BK200.out 6).trans rfl⟩ (fun hHeld => ?_)
   clear hK K
   refine norm_ (a' := ?_) ?_ ?_
   rotate_left
   ·
    show Act.put _ (some 15) _ = _
    simp only [Act.put, List.setIfInBounds_toArray, List.set_cons_zero, List.set_cons_succ, i64_w, i32_w]
    rfl
   refine one_ (i := 6) (N := some 9) #[Y,Y,Y,Y,Y,Y,Y,Y,Y,Y,Y,Y,Y,Z,Z] rfl rfl (one_of HT_.out (by kernel_rfl)) (by decide) (fun K hK => ?_)
   refine Kd.R_lit_step (Kd.int .i64) _ 3 ?hg (N := 9) ?hd (xs := ([a0_1, a0_2, a0_3] : List Int)) (inner := [.int .i64 a0_1, .int .i64 a0_2, .int .i64 a0_3]) (ok := fun _ => True) (okp := fun _ => True) ?hr ?hp (fun _ hk => hk) trivial (Below.refl _ _) (Nat.le_refl _) (by simp) ?_; (case hd => rfl); (case hg => rfl); (case hr => first | (go_simp; done) | (go_simp; rfl)); (case hp => exact (Reps.one (show Kd.M (Kd.int .i64) _ _ _ a0_1 [.int .i64 a0_1] from rfl) (Reps.one (show Kd.M (Kd.int .i64) _ _ _ a0_2 [.int .i64 a0_2] from rfl) (Reps.one (show Kd.M (Kd.int .i64) _ _ _ a0_3 [.int .i64 a0_3] from rfl) (Reps.none _ _)))))
   intro v202 w9 ho10 hb hg_ hnew_
   clear hg_ hnew_
   (first | rw [← Ny201.out] at ho10 | (simp only [Int.reduceToNat] at ho10; rw [← Ny201.out] at ho10))
   have n0_ := Ad_.mk (Kd.R_lower (Kd.R_newM (M := fun k_ => (w.heap.size ≤ k_)) ho10 (bZ_ (Bo_ HB.out GE200.out)) (fun k_ h_ => h_)) (bZ_ (Bo_ HB.out GE200.out)))
   have n1_ := Ad_.mk (blk_below (g := gb200) (o := .cells #[.int .i64 a0_0, .int .i64 a0_1, .int .i64 a0_2, .int .i64 a0_3, .int .i64 a0_4, .string a0_5, .string a0_6] 55 (0, 0)) (Ko_ BK200.out) hb)
   have n2_ := Ad_.mk (bP_ (Bo_ HB.out GE200.out) hb)
   clear BK200
   clear HB
   have HO203 := n0_
   have BK200 := n1_
   have HB := n2_
   clear n0_ n1_ n2_
   clear hb ho10
   refine hK.out _ _ ⟨(kC_ BK200.out 0).trans rfl, (kC_ BK200.out 1).trans rfl, (kC_ BK200.out 2).trans rfl, (kC_ BK200.out 3).trans rfl, (kC_ BK200.out 4).trans rfl, (kC_ BK200.out 5).trans rfl, (kC_ BK200.out 6).trans rfl⟩ (fun hHeld => ?_)
   clear hK K
   refine norm_ (a' := ?_) ?_ ?_
   rotate_left
   ·
    show Act.put _ (some 9) _ = _
    simp only [Act.put, List.setIfInBounds_toArray, List.set_cons_zero, List.set_cons_succ, i64_w, i32_w]
    rfl
   exact norm_ (by simp only [putAll, Act.put, List.setIfInBounds_toArray, List.set_cons_zero, List.set_cons_succ]) (hCont (v202) _ ⟨hHeld, (by (with_reducible repeat (first | apply Kd.R_alloc | apply Kd.R_drewN | apply Kd.R_drew)); exact Kd.R_mono HO203.out (fun _ hk => hk.1)), (Ko_ BK200.out), (Bo_ HB.out GE200.out)⟩)
  rintro v202 w11 ⟨hS_, h0_, h1_, h2_⟩
  have n0_ : Ad_ (Kd.R (Kd.int .i64) 3 w11 w.heap.size (fun k_ => (w.heap.size ≤ k_)) v202 y201) := ⟨h0_⟩
  have n1_ : Ad_ (w11.heap[gb200]? = some (.cells #[.int .i64 a0_0, .int .i64 a0_1, .int .i64 a0_2, .int .i64 a0_3, .int .i64 a0_4, .string a0_5, .string a0_6] 55 (0, 0))) := ⟨h1_⟩
  have n2_ : Ad_ (Below w.heap.size w w11) := ⟨h2_⟩
  clear BK200
  clear HB
  clear h0_ h1_ h2_
  have HO203 := n0_
  have BK200 := n1_
  have HB := n2_
  clear n0_ n1_ n2_
  have hHeld : w11.cell? ⟨gb200, 0, none⟩ = some (.int .i64 a0_0) ∧ w11.cell? ⟨gb200, 1, none⟩ = some (.int .i64 a0_1) ∧ w11.cell? ⟨gb200, 2, none⟩ = some (.int .i64 a0_2) ∧ w11.cell? ⟨gb200, 3, none⟩ = some (.int .i64 a0_3) ∧ w11.cell? ⟨gb200, 4, none⟩ = some (.int .i64 a0_4) ∧ w11.cell? ⟨gb200, 5, none⟩ = some (.string a0_5) ∧ w11.cell? ⟨gb200, 6, none⟩ = some (.string a0_6) := hS_
  obtain ⟨Ao13, co13, eo13⟩ := Kd.R_slice HO203.out
  (first | subst eo13 | (injection eo13 with f1_ f2_ f3_; have f4_ := f1_.symm; have f5_ := f3_.symm; clear f1_ f2_ f3_; subst f4_; subst f5_))
  have qm12 : (t204 : Int) ≤ (t205 : Int) := od_
  have qn12 : (t205 : Int) ≤ ((y201.length : Int) : Int) := od_
  have q12 : (t204 : Int) ≤ ((y201.length : Int) : Int) := Int.le_trans qm12 qn12
  obtain ⟨i012, hi012, _, hsz12, _⟩ := info_parts info3
  have hroom12 : y201.length ≤ co13 := (Kd.R_reads' HO203.out).2.1
  have hC12 : Kd.F (Kd.int .i64) _ _ Ao13 y201.length y201 := (Kd.V_at (base := w.heap.size) (Kd.R_V (Kd.R_types (HO203.out) BK200.out (by decide)))).2.2
  have hcut12 := cut_to_max (P := Tryd.prog) 31 3 .i64 .i64 Tryd.underlying31 hi012 Ao13 y201.length co13 t204 t205 (od_) qm12 qn12 hroom12
  have hr12 := Kd.F_take (m := (t204 : Int).toNat) hC12 (by omega)
  have hy12 : y206.length = (t204 : Int).toNat := (by rw [Ny206.out, List.length_take]; omega)
  rw [← Ny206.out] at hr12
  rw [← hy12] at hcut12
  have HO210 := Ad_.mk (show Kd.V (Kd.int .i64) 3 _ w.heap.size _ (.slice Ao13 y206.length ((t205 : Int).toNat)) y206 from Kd.V_mk (by omega) hr12)
  have HC210 := Ad_.mk (show y206.length ≤ ((t205 : Int).toNat) from by omega)
  clear hr12 hC12 hroom12 hi012 hsz12
  have KY12 := Ad_.mk hy12
  clear hy12
  replace q12 := eq_true q12
  refine norm_ (a' := ?_) ?_ ?_
  rotate_left
  ·
   simp only [putAll, Act.put, List.setIfInBounds_toArray, List.set_cons_zero, List.set_cons_succ]
   rfl
  refine pu_ (i := 13) (N := some 16) #[Y,Y,Y,Y,Y,Y,Y,Y,Y,Y,Y,Y,Y,Y,Z] ?_
  refine pu_ (i := 14) (N := some 2) #[Y,Y,Y,Y,Y,Y,Y,Y,Y,Y,Y,Y,Y,Y,Y] ?_
  refine done_ (done_of HT_.out (by kernel_rfl)) ?_
  try go_wp2
  go_ret
  exact ⟨_, er_, by (with_reducible repeat (first | apply Kd.V_alloc | apply Kd.V_drewN | apply Kd.V_drew)); exact Kd.V_mono HO210.out (fun _ hk => hk.1), Bo_ HB.out GE200.out⟩
def impl_in.f (a0 : Int) (a1 : Int) (a2 : Int) : Option (Bool) := if a0 ≥ a1 then (some (decide (a0 ≤ a2))) else (some false)
set_option maxHeartbeats 8000000 in
set_option maxRecDepth 100000 in
theorem impl_in.calls (a0 : Int) (a1 : Int) (a2 : Int) (r : Bool) (w : World) (h : impl_in.f a0 a1 a2 = some r) :
    Calls Tryd.prog 71 #[.int .i64 a0, .int .i64 a1, .int .i64 a2] w fun e w' => e = .returned (.bool r) ∧ Drawn0 w w' := by
  have H := h
  unfold impl_in.f at H
  clear h
  by_cases c4 : a0 ≥ a1
  ·
   rw [if_pos c4] at H
   have c4b0 := decide_eq_true c4
   clear c4
   obtain rfl := Option.some.inj H
   go_enter Tryd.func71, Tryd.ntmps71
   go_wp2
   go_ret
   exact ⟨by first | rfl | (simp; done) | (simp [*]; done), by repeat (first | exact Drawn0.refl _ | apply Drawn0.step)⟩
  rw [if_neg c4] at H
  have c4b0 := decide_eq_false c4
  clear c4
  obtain rfl := Option.some.inj H
  go_enter Tryd.func71, Tryd.ntmps71
  go_wp2
  go_ret
  exact ⟨by first | rfl | (simp; done) | (simp [*]; done), by repeat (first | exact Drawn0.refl _ | apply Drawn0.step)⟩
end Go.Proofs.YtfmlamheflbgdaaDoor.PAll
end
section
namespace Go.Proofs.YtfmlamheflbgdaaDoor.PAll
open Go.RowKit Go.Proofs.YtfmlamheflbgdaaDoorW.PrintWords Go.Proofs.YtfmlamheflbgdaaDoorW.PrintLast Go.Proofs.YtfmlamheflbgdaaDoorW.PrintMore
attribute [local go_sem] max2_int min2_int max_two min_two max_three min_three max_four min_four
set_option linter.unusedVariables false
set_option linter.unusedSimpArgs false
mutual
def impl_parents.l0 : Nat → List (S55) → List Int → Int → Int → Option (List Int)
  | 0, _, _, _, _ => none
  | k + 1, x0, x3, x13, x14 => if x14 < x13 then (if 0 ≤ x14 then (if x14 < (x3.length : Int) then (impl_parents.l0 k x0 (x3.set (x14 : Int).toNat (-1)) x13 (wrap64 (x14 + 1))) else (none)) else (none)) else (impl_parents.l1 k x3 x0 (x0.length : Int) 0)
def impl_parents.l1 : Nat → List Int → List (S55) → Int → Int → Option (List Int)
  | 0, _, _, _, _ => none
  | k + 1, x3, x21, x22, x23 => if x23 < x22 then (if 0 ≤ x23 then (if x23 < (x21.length : Int) then ((impl_Kids.f k ((rd_T55 x21 x23).f0) ((rd_T55 x21 x23).f1) ((rd_T55 x21 x23).f2) ((rd_T55 x21 x23).f3) ((rd_T55 x21 x23).f4) ((rd_T55 x21 x23).f5) ((rd_T55 x21 x23).f6)).bind fun t305 => (impl_parents.l2 k x3 x23 x21 x22 x23 t305 (t305.length : Int) 0)) else (none)) else (none)) else (some x3)
def impl_parents.l2 : Nat → List Int → Int → List (S55) → Int → Int → List Int → Int → Int → Option (List Int)
  | 0, _, _, _, _, _, _, _, _ => none
  | k + 1, x3, x5, x21, x22, x23, x29, x30, x31 => if x31 < x30 then (if 0 ≤ x31 then (if x31 < (x29.length : Int) then (if 0 ≤ (rd x29 x31) then (if (rd x29 x31) < (x3.length : Int) then (impl_parents.l2 k (x3.set ((rd x29 x31) : Int).toNat x5) x5 x21 x22 x23 x29 x30 (wrap64 (x31 + 1))) else (none)) else (none)) else (none)) else (none)) else (impl_parents.l1 k x3 x21 x22 (wrap64 (x23 + 1)))
end
def impl_parents.f (k : Nat) (l0 : List (S55)) : Option (List Int) := if 0 ≤ (l0.length : Int) then (if ((l0.length : Int) : Int).toNat ≤ 35184372088832 then ((some (List.replicate ((l0.length : Int) : Int).toNat 0 : List Int)).bind fun y299 => (impl_parents.l0 k l0 y299 (y299.length : Int) 0)) else (none)) else (none)
set_option maxHeartbeats 8000000 in
set_option maxRecDepth 100000 in
theorem impl_parents.calls (k : Nat) (A0 : Option Addr) (c0 : Nat) (l0 : List (S55)) (r : List Int) (w : World) (hr0 : Kd.C k55 w A0 l0.length l0) (hc0 : l0.length ≤ c0) (h : impl_parents.f k l0 = some r) :
    Calls Tryd.prog 73 #[.slice A0 l0.length c0] w fun e w' => ∃ v0_ : Value, e = .returned (v0_) ∧ Kd.R (Kd.int .i64) 3 w' w.heap.size (fun _ => True) v0_ r ∧ Below w.heap.size w w' := by
  have hu55 := Tryd.underlying55
  have HR0 := Ad_.mk hr0
  have HC0 := Ad_.mk hc0
  clear hr0 hc0
  have HB := Ad_.mk (Below.refl w.heap.size w)
  have H := h
  unfold impl_parents.f at H
  clear h
  by_cases c2 : 0 ≤ (l0.length : Int)
  rotate_left
  ·
   rw [if_neg c2] at H
   exact absurd H (by simp)
  rw [if_pos c2] at H
  have c2b0 := eq_true c2
  have c2b1 := decide_eq_true c2
  clear c2
  by_cases c3 : ((l0.length : Int) : Int).toNat ≤ 35184372088832
  rotate_left
  ·
   rw [if_neg c3] at H
   exact absurd H (by simp)
  rw [if_pos c3] at H
  have c3b0 := eq_true c3
  have c3b1 := decide_eq_true c3
  clear c3
  obtain ⟨y299, hy299⟩ : ∃ y_ : List Int, y_ = (List.replicate ((l0.length : Int) : Int).toNat 0) := ⟨_, rfl⟩
  replace H : (impl_parents.l0 k l0 y299 (y299.length : Int) 0) = some r := by first | (rw [hy299]; with_reducible exact H) | (have H2_ := (Option.bind_some _ _).symm.trans H; rw [hy299]; with_reducible exact H2_) | (have H2_ := (Option.bind_some _ _).symm.trans H; with_reducible exact H2_) | with_reducible exact H | (rw [hy299]; exact H) | exact H
  have Ny299 := Ad_.mk hy299
  clear hy299
  have H' := Ad_.mk H
  clear H
  go_enter Tryd.func73, Tryd.ntmps73
  go_wp2_with (first | ((with_reducible refine gD_ (N := 11) rfl ?_); refine Kd.R_make (Kd.int .i64) _ 3 rfl (N := 11) rfl 31 _ _ rfl (l0.length : Int) rfl rfl Tryd.underlying31 (.int .i64 0) 8 info3 rfl (by decide) (by omega) 0 (ok := fun _ => True) (okp := fun _ => True) rfl (fun _ hk => hk) trivial (od_) (Nat.le_trans (Nat.mul_le_mul_right _ (od_ : (l0.length : Int).toNat ≤ 35184372088832)) (by omega)) (Below.refl _ _) (Nat.le_refl _) ?_; intro v300 w4 ho5 hb hg_ hnew_; clear hg_ hnew_; (first | rw [← Ny299.out] at ho5 | (simp only [Int.reduceToNat] at ho5; rw [← Ny299.out] at ho5)); have n0_ := Ad_.mk (Kd.R_lower ho5 (bZ_ (Bn_ HB.out))); have n1_ := Ad_.mk (bQ_ HB.out hb); clear HB; have HO301 := n0_; have HB := n1_; clear n0_ n1_; clear hb ho5; obtain ⟨Ao6, co6, eo6⟩ := Kd.R_slice HO301.out; subst eo6))
  go_loopg [14] k (fun kq v14 w' => ∃ (x3_1 : List Int) (x14_1 : Int), v14 = .int .i64 x14_1 ∧ Ad_ (impl_parents.l0 kq l0 x3_1 (y299.length : Int) x14_1 = some r) ∧ Ad_ (kq ≤ k) ∧ Ad_ (Kd.R (Kd.int .i64) 3 w' w.heap.size (fun _ => True) (.slice Ao6 y299.length co6) x3_1) ∧ Ad_ (Below w.heap.size w w'))
  case atStart => exact ⟨(y299), (0), fs_, H', ⟨Nat.le_refl _⟩, ⟨Ro_ HO301.out⟩, ⟨Bn_ HB.out⟩⟩
  case round =>
    clear H'
    try clear c2b0 c2b1
    try clear p2
    try clear c3b0 c3b1
    obtain ⟨x3_1, x14_1, rfl, HA, HK1, HO_3, HB⟩ := hrel
    have hl3_1 := (Kd.R_reads' HO_3.out).1
    rw [hl3_1] at HO_3
    (try simp only [hl3_1])
    cases gk with
    | zero => exact absurd HA.out (by simp [impl_parents.l0])
    | succ k1 =>
      have H := HA.out
      clear HA
      simp only [impl_parents.l0] at H
      by_cases c7 : x14_1 < (y299.length : Int)
      ·
       rw [if_pos c7] at H
       have c7b0 := decide_eq_true c7
       (try (have c7b0h : decide (x14_1 < (x3_1.length : Int)) = true := by rw [← hl3_1]; exact c7b0))
       clear c7
       by_cases c8 : 0 ≤ x14_1
       rotate_left
       ·
        rw [if_neg c8] at H
        exact absurd H (by simp)
       rw [if_pos c8] at H
       have c8b0 := decide_eq_true c8
       clear c8
       by_cases c9 : x14_1 < (x3_1.length : Int)
       rotate_left
       ·
        rw [if_neg c9] at H
        exact absurd H (by simp)
       rw [if_pos c9] at H
       have c9b0 := decide_eq_true c9
       clear c9
       obtain ⟨y302, hy302⟩ : ∃ y_ : List Int, y_ = (x3_1.set (x14_1 : Int).toNat (-1)) := ⟨_, rfl⟩
       replace H : (impl_parents.l0 k1 l0 y302 (y299.length : Int) (wrap64 (x14_1 + 1))) = some r := by first | (rw [hy302]; with_reducible exact H) | (have H2_ := (Option.bind_some _ _).symm.trans H; rw [hy302]; with_reducible exact H2_) | (have H2_ := (Option.bind_some _ _).symm.trans H; with_reducible exact H2_) | with_reducible exact H | (rw [hy302]; exact H) | exact H
       have Ny302 := Ad_.mk hy302
       clear hy302
       have H' := Ad_.mk H
       clear H
       have p10 : 0 ≤ (x14_1 : Int) := od_
       have q10 : (x14_1 : Int) < ((x3_1.length : Int) : Int) := od_
       obtain ⟨go10, co10, eo10, gb10, gl10, cl10, HG10⟩ := Kd.R_form HO_3.out (by omega)
       (first | cases eo10 | (injection eo10 with ea_ en_ ec_; (first | subst ea_ | (injection ea_ with ea_; subst ea_)); subst ec_; clear en_))
       have GB10 := Ad_.mk gb10
       have GG10 := Ad_.mk HG10
       clear gb10 gl10 HG10
       obtain ⟨hx10_0, hf10_0⟩ := Kd.R_celln 0 HO_3.out (x14_1 : Int) p10 q10
       replace p10 := eq_true p10
       replace q10 := eq_true q10
       have HP11 := Kd.R_putg HO_3.out (x14_1 : Int) (-1)
       go_wp2_with (first | ((with_reducible refine gate_store (t := 3) (p := 19) rfl ?_); refine store_event (t := 3) (p := 19) (v := ?vo_w12) (w1 := (wr.setCell ⟨go10, (x14_1 : Int).toNat, none⟩ (.int .i64 (-1)))) ?hg ?ho ?hn ?hr ?_; (case ho => rfl); (case hg => rfl); (case hn => rfl); (case hr => first | (go_simp; done) | (go_simp; rfl)); intro w12 hw; have hg : wr.grownBy w12 (some go10) := (by rw [hw]; exact HP11.2); have hp_ : Kd.R (Kd.int .i64) 3 w12 w.heap.size (fun _ => True) (.slice (some ⟨go10, 0, none⟩) x3_1.length co6) y302 := (by rw [hw, Ny302.out]; exact HP11.1); clear HP11; have n0_ := Ad_.mk (hp_); have n1_ := Ad_.mk ((by rw [hw]; exact bS_ (HB.out) GB10.out : Below w.heap.size w w12)); clear HO_3; clear HB; have HO_3 := n0_; have HB := n1_; clear n0_ n1_; clear hg hw hp_))
       (try simp only [← hl3_1])
       go_roundg k1
       case measure => have := HK1.out; omega
       case rel => exact ⟨(y302), (wrap64 (x14_1 + 1)), fs_, H', ⟨by have := HK1.out; omega⟩, ⟨by (try simp only [hl3_1]); (with_reducible repeat (first | apply Kd.R_alloc | apply Kd.R_drewN | apply Kd.R_drew)); exact HO_3.out⟩, ⟨Bn_ HB.out⟩⟩
      rw [if_neg c7] at H
      have c7b0 := decide_eq_false c7
      (try (have c7b0h : decide (x14_1 < (x3_1.length : Int)) = false := by rw [← hl3_1]; exact c7b0))
      clear c7
      have H' := Ad_.mk H
      clear H
      go_wp2
      go_loopg [23] k1 (fun kq v23 w' => ∃ (x3_2 : List Int) (x23_2 : Int), v23 = .int .i64 x23_2 ∧ Ad_ (impl_parents.l1 kq x3_2 l0 (l0.length : Int) x23_2 = some r) ∧ Ad_ (kq ≤ k1) ∧ Ad_ (Kd.R (Kd.int .i64) 3 w' w.heap.size (fun _ => True) (.slice Ao6 x3_1.length co6) x3_2) ∧ Ad_ (Below w.heap.size w w'))
      case atStart => exact ⟨(x3_1), (0), fs_, H', ⟨Nat.le_refl _⟩, ⟨by (try simp only [hl3_1]); (with_reducible repeat (first | apply Kd.R_alloc | apply Kd.R_drewN | apply Kd.R_drew)); exact HO_3.out⟩, ⟨Bn_ HB.out⟩⟩
      case round =>
        clear H'
        try clear p1
        try clear q1
        try clear hx1
        try clear hf1
        try clear c2b0 c2b1
        try clear p2
        try clear c3b0 c3b1
        try clear p6
        try clear c7b0
        try clear c8b0
        try clear c9b0
        try clear p10
        try clear q10
        try clear hx10
        try clear hf10
        try clear hx10_0
        try clear p10
        try clear p2
        try clear q10
        obtain ⟨x3_2, x23_2, rfl, HA, HK2, HO_3, HB⟩ := hrel
        have hl3_2 := (Kd.R_reads' HO_3.out).1
        rw [hl3_2] at HO_3
        (try simp only [hl3_2])
        cases gk with
        | zero => exact absurd HA.out (by simp [impl_parents.l1])
        | succ k2 =>
          have H := HA.out
          clear HA
          simp only [impl_parents.l1] at H
          by_cases c13 : x23_2 < (l0.length : Int)
          rotate_left
          ·
           rw [if_neg c13] at H
           have c13b0 := decide_eq_false c13
           clear c13
           obtain rfl := Option.some.inj H
           go_wp2
           go_ret
           exact ⟨_, er_, by (with_reducible repeat (first | apply Kd.R_alloc | apply Kd.R_drewN | apply Kd.R_drew)); exact HO_3.out, Bn_ HB.out⟩
          rw [if_pos c13] at H
          have c13b0 := decide_eq_true c13
          clear c13
          by_cases c14 : 0 ≤ x23_2
          rotate_left
          ·
           rw [if_neg c14] at H
           exact absurd H (by simp)
          rw [if_pos c14] at H
          have c14b0 := decide_eq_true c14
          clear c14
          by_cases c15 : x23_2 < (l0.length : Int)
          rotate_left
          ·
           rw [if_neg c15] at H
           exact absurd H (by simp)
          rw [if_pos c15] at H
          have c15b0 := decide_eq_true c15
          clear c15
          replace H := Option.bind_eq_some_iff.mp H
          obtain ⟨t305, A160, H⟩ := H
          try dsimp only at H
          have A16 := Ad_.mk A160
          clear A160
          have H' := Ad_.mk H
          clear H
          have p303 : 0 ≤ (x23_2 : Int) := od_
          have q303 : x23_2 < (l0.length : Int) := od_
          obtain ⟨ad303, e303, hx303_0, hx303_1, hx303_2, hx303_3, hx303_4, hx303_5, hx303_6⟩ := at_T55 HR0.out x23_2 p303 q303
          cases e303
          replace hx303_0 := pB_ HB.out hx303_0
          replace hx303_1 := pB_ HB.out hx303_1
          replace hx303_2 := pB_ HB.out hx303_2
          replace hx303_3 := pB_ HB.out hx303_3
          replace hx303_4 := pB_ HB.out hx303_4
          replace hx303_5 := pB_ HB.out hx303_5
          replace hx303_6 := pB_ HB.out hx303_6
          replace p303 := eq_true p303
          replace q303 := eq_true q303
          go_wp2_with (first | ((with_reducible refine gD_ (N := 6) rfl ?_); refine bE_ ?hg (N := 6) ?hd (cs := #[.int .i64 0, .int .i64 0, .int .i64 0, .int .i64 0, .int .i64 0, .string (⟨#[]⟩ : ByteArray), .string (⟨#[]⟩ : ByteArray)]) (t := 55) ?hr ?_; (case hd => rfl); (case hg => rfl); (case hr => first | (go_simp; done) | (go_simp; rfl)); intro gb304 hg w17 hbox hb; have n0_ := Ad_.mk (Rb_ HO_3.out hb); have n1_ := Ad_.mk (bQ_ HB.out hb); have n2_ := Ad_.mk (hbox); have n3_ := Ad_.mk ((by rw [hg]; exact (bZ_ (Bn_ HB.out)) : w.heap.size ≤ gb304)); have n4_ := Ad_.mk ((by rw [hg]; exact (bZ_ (Bn_ HB.out)) : w.heap.size ≤ gb304)); clear HO_3; clear HB; have HO_3 := n0_; have HB := n1_; have BK304 := n2_; have GW304 := n3_; have GE304 := n4_; clear n0_ n1_ n2_ n3_ n4_; clear hb hbox hg; obtain ⟨hcz18_0, hcz18_1, hcz18_2, hcz18_3, hcz18_4, hcz18_5, hcz18_6⟩ := cells7_ BK304.out; obtain ⟨hfz18_0, hfz18_1, hfz18_2, hfz18_3, hfz18_4, hfz18_5, hfz18_6⟩ := froz7_ BK304.out) | ((with_reducible refine gC_ (f := 56) rfl ?_); refine gM_ (some 29) rfl rfl Tryd.func56 (by kernel_rfl) rfl #[.agg #[.int .i64 ((rd_T55 l0 x23_2).f0), .int .i64 ((rd_T55 l0 x23_2).f1), .int .i64 ((rd_T55 l0 x23_2).f2), .int .i64 ((rd_T55 l0 x23_2).f3), .int .i64 ((rd_T55 l0 x23_2).f4), .string ((rd_T55 l0 x23_2).f5), .string ((rd_T55 l0 x23_2).f6)]] rfl ?_; (with_reducible refine (impl_Kids.calls k2 ((rd_T55 l0 x23_2).f0) ((rd_T55 l0 x23_2).f1) ((rd_T55 l0 x23_2).f2) ((rd_T55 l0 x23_2).f3) ((rd_T55 l0 x23_2).f4) ((rd_T55 l0 x23_2).f5) ((rd_T55 l0 x23_2).f6) t305 _ A16.out).mono ?_); rintro e w19 ⟨v306, rfl, ho0, hb⟩; refine ⟨_, rfl, ?_⟩; have n0_ := Ad_.mk (Kd.R_below (by (with_reducible repeat (first | apply Kd.R_alloc | apply Kd.R_drewN | apply Kd.R_drew)); exact (Kd.R_mono (Kd.R_far (p := ⟨gb304, 6, none⟩) (Kd.R_far (p := ⟨gb304, 5, none⟩) (Kd.R_far (p := ⟨gb304, 4, none⟩) (Kd.R_far (p := ⟨gb304, 3, none⟩) (Kd.R_far (p := ⟨gb304, 2, none⟩) (Kd.R_far (p := ⟨gb304, 1, none⟩) (Kd.R_far (p := ⟨gb304, 0, none⟩) (Kd.R_types HO_3.out BK304.out (by decide)) (fun _ hk => hk.2) (.int .i64 ((rd_T55 l0 x23_2).f0))) (fun _ hk => hk.2) (.int .i64 ((rd_T55 l0 x23_2).f1))) (fun _ hk => hk.2) (.int .i64 ((rd_T55 l0 x23_2).f2))) (fun _ hk => hk.2) (.int .i64 ((rd_T55 l0 x23_2).f3))) (fun _ hk => hk.2) (.int .i64 ((rd_T55 l0 x23_2).f4))) (fun _ hk => hk.2) (.string ((rd_T55 l0 x23_2).f5))) (fun _ hk => hk.2) (.string ((rd_T55 l0 x23_2).f6))) (fun _ h_ => h_.1))) hb); have n1_ := Ad_.mk (Kd.V_lower (Kd.V_mono (ok' := fun k_ => some k_ ≠ (.slice Ao6 x3_2.length co6 : Value).ownBlock ∧ k_ ≠ gb304) ho0 (fun k_ hk_ => ⟨(Kd.fresh' (Kd.R_lt (by (with_reducible repeat (first | apply Kd.R_alloc | apply Kd.R_drewN | apply Kd.R_drew)); exact (Kd.R_mono (Kd.R_far (p := ⟨gb304, 6, none⟩) (Kd.R_far (p := ⟨gb304, 5, none⟩) (Kd.R_far (p := ⟨gb304, 4, none⟩) (Kd.R_far (p := ⟨gb304, 3, none⟩) (Kd.R_far (p := ⟨gb304, 2, none⟩) (Kd.R_far (p := ⟨gb304, 1, none⟩) (Kd.R_far (p := ⟨gb304, 0, none⟩) (Kd.R_types HO_3.out BK304.out (by decide)) (fun _ hk => hk.2) (.int .i64 ((rd_T55 l0 x23_2).f0))) (fun _ hk => hk.2) (.int .i64 ((rd_T55 l0 x23_2).f1))) (fun _ hk => hk.2) (.int .i64 ((rd_T55 l0 x23_2).f2))) (fun _ hk => hk.2) (.int .i64 ((rd_T55 l0 x23_2).f3))) (fun _ hk => hk.2) (.int .i64 ((rd_T55 l0 x23_2).f4))) (fun _ hk => hk.2) (.string ((rd_T55 l0 x23_2).f5))) (fun _ hk => hk.2) (.string ((rd_T55 l0 x23_2).f6))) (fun _ h_ => h_.1)))) k_ hk_), (Kd.freshB (g := gb304) (o := .cells #[.int .i64 ((rd_T55 l0 x23_2).f0), .int .i64 ((rd_T55 l0 x23_2).f1), .int .i64 ((rd_T55 l0 x23_2).f2), .int .i64 ((rd_T55 l0 x23_2).f3), .int .i64 ((rd_T55 l0 x23_2).f4), .string ((rd_T55 l0 x23_2).f5), .string ((rd_T55 l0 x23_2).f6)] 55 (0, 0)) (by (with_reducible repeat (first | refine kN_ ?_ _ | refine k1_ ?_ | refine kA_ ?_ _)); refine blk_put (cs := #[.int .i64 ((rd_T55 l0 x23_2).f0), .int .i64 ((rd_T55 l0 x23_2).f1), .int .i64 ((rd_T55 l0 x23_2).f2), .int .i64 ((rd_T55 l0 x23_2).f3), .int .i64 ((rd_T55 l0 x23_2).f4), .string ((rd_T55 l0 x23_2).f5), .string (⟨#[]⟩ : ByteArray)]) ?_ 6 _ rfl; (with_reducible repeat (first | refine kN_ ?_ _ | refine k1_ ?_ | refine kA_ ?_ _)); refine blk_put (cs := #[.int .i64 ((rd_T55 l0 x23_2).f0), .int .i64 ((rd_T55 l0 x23_2).f1), .int .i64 ((rd_T55 l0 x23_2).f2), .int .i64 ((rd_T55 l0 x23_2).f3), .int .i64 ((rd_T55 l0 x23_2).f4), .string (⟨#[]⟩ : ByteArray), .string (⟨#[]⟩ : ByteArray)]) ?_ 5 _ rfl; (with_reducible repeat (first | refine kN_ ?_ _ | refine k1_ ?_ | refine kA_ ?_ _)); refine blk_put (cs := #[.int .i64 ((rd_T55 l0 x23_2).f0), .int .i64 ((rd_T55 l0 x23_2).f1), .int .i64 ((rd_T55 l0 x23_2).f2), .int .i64 ((rd_T55 l0 x23_2).f3), .int .i64 0, .string (⟨#[]⟩ : ByteArray), .string (⟨#[]⟩ : ByteArray)]) ?_ 4 _ rfl; (with_reducible repeat (first | refine kN_ ?_ _ | refine k1_ ?_ | refine kA_ ?_ _)); refine blk_put (cs := #[.int .i64 ((rd_T55 l0 x23_2).f0), .int .i64 ((rd_T55 l0 x23_2).f1), .int .i64 ((rd_T55 l0 x23_2).f2), .int .i64 0, .int .i64 0, .string (⟨#[]⟩ : ByteArray), .string (⟨#[]⟩ : ByteArray)]) ?_ 3 _ rfl; (with_reducible repeat (first | refine kN_ ?_ _ | refine k1_ ?_ | refine kA_ ?_ _)); refine blk_put (cs := #[.int .i64 ((rd_T55 l0 x23_2).f0), .int .i64 ((rd_T55 l0 x23_2).f1), .int .i64 0, .int .i64 0, .int .i64 0, .string (⟨#[]⟩ : ByteArray), .string (⟨#[]⟩ : ByteArray)]) ?_ 2 _ rfl; (with_reducible repeat (first | refine kN_ ?_ _ | refine k1_ ?_ | refine kA_ ?_ _)); refine blk_put (cs := #[.int .i64 ((rd_T55 l0 x23_2).f0), .int .i64 0, .int .i64 0, .int .i64 0, .int .i64 0, .string (⟨#[]⟩ : ByteArray), .string (⟨#[]⟩ : ByteArray)]) ?_ 1 _ rfl; (with_reducible repeat (first | refine kN_ ?_ _ | refine k1_ ?_ | refine kA_ ?_ _)); refine blk_put (cs := #[.int .i64 0, .int .i64 0, .int .i64 0, .int .i64 0, .int .i64 0, .string (⟨#[]⟩ : ByteArray), .string (⟨#[]⟩ : ByteArray)]) ?_ 0 _ rfl; (with_reducible repeat (first | refine kN_ ?_ _ | refine k1_ ?_ | refine kA_ ?_ _)); exact BK304.out) k_ hk_)⟩)) (bZ_ (Bo_ HB.out GE304.out))); have n2_ := Ad_.mk (blk_below (g := gb304) (o := .cells #[.int .i64 ((rd_T55 l0 x23_2).f0), .int .i64 ((rd_T55 l0 x23_2).f1), .int .i64 ((rd_T55 l0 x23_2).f2), .int .i64 ((rd_T55 l0 x23_2).f3), .int .i64 ((rd_T55 l0 x23_2).f4), .string ((rd_T55 l0 x23_2).f5), .string ((rd_T55 l0 x23_2).f6)] 55 (0, 0)) (by (with_reducible repeat (first | refine kN_ ?_ _ | refine k1_ ?_ | refine kA_ ?_ _)); refine blk_put (cs := #[.int .i64 ((rd_T55 l0 x23_2).f0), .int .i64 ((rd_T55 l0 x23_2).f1), .int .i64 ((rd_T55 l0 x23_2).f2), .int .i64 ((rd_T55 l0 x23_2).f3), .int .i64 ((rd_T55 l0 x23_2).f4), .string ((rd_T55 l0 x23_2).f5), .string (⟨#[]⟩ : ByteArray)]) ?_ 6 _ rfl; (with_reducible repeat (first | refine kN_ ?_ _ | refine k1_ ?_ | refine kA_ ?_ _)); refine blk_put (cs := #[.int .i64 ((rd_T55 l0 x23_2).f0), .int .i64 ((rd_T55 l0 x23_2).f1), .int .i64 ((rd_T55 l0 x23_2).f2), .int .i64 ((rd_T55 l0 x23_2).f3), .int .i64 ((rd_T55 l0 x23_2).f4), .string (⟨#[]⟩ : ByteArray), .string (⟨#[]⟩ : ByteArray)]) ?_ 5 _ rfl; (with_reducible repeat (first | refine kN_ ?_ _ | refine k1_ ?_ | refine kA_ ?_ _)); refine blk_put (cs := #[.int .i64 ((rd_T55 l0 x23_2).f0), .int .i64 ((rd_T55 l0 x23_2).f1), .int .i64 ((rd_T55 l0 x23_2).f2), .int .i64 ((rd_T55 l0 x23_2).f3), .int .i64 0, .string (⟨#[]⟩ : ByteArray), .string (⟨#[]⟩ : ByteArray)]) ?_ 4 _ rfl; (with_reducible repeat (first | refine kN_ ?_ _ | refine k1_ ?_ | refine kA_ ?_ _)); refine blk_put (cs := #[.int .i64 ((rd_T55 l0 x23_2).f0), .int .i64 ((rd_T55 l0 x23_2).f1), .int .i64 ((rd_T55 l0 x23_2).f2), .int .i64 0, .int .i64 0, .string (⟨#[]⟩ : ByteArray), .string (⟨#[]⟩ : ByteArray)]) ?_ 3 _ rfl; (with_reducible repeat (first | refine kN_ ?_ _ | refine k1_ ?_ | refine kA_ ?_ _)); refine blk_put (cs := #[.int .i64 ((rd_T55 l0 x23_2).f0), .int .i64 ((rd_T55 l0 x23_2).f1), .int .i64 0, .int .i64 0, .int .i64 0, .string (⟨#[]⟩ : ByteArray), .string (⟨#[]⟩ : ByteArray)]) ?_ 2 _ rfl; (with_reducible repeat (first | refine kN_ ?_ _ | refine k1_ ?_ | refine kA_ ?_ _)); refine blk_put (cs := #[.int .i64 ((rd_T55 l0 x23_2).f0), .int .i64 0, .int .i64 0, .int .i64 0, .int .i64 0, .string (⟨#[]⟩ : ByteArray), .string (⟨#[]⟩ : ByteArray)]) ?_ 1 _ rfl; (with_reducible repeat (first | refine kN_ ?_ _ | refine k1_ ?_ | refine kA_ ?_ _)); refine blk_put (cs := #[.int .i64 0, .int .i64 0, .int .i64 0, .int .i64 0, .int .i64 0, .string (⟨#[]⟩ : ByteArray), .string (⟨#[]⟩ : ByteArray)]) ?_ 0 _ rfl; (with_reducible repeat (first | refine kN_ ?_ _ | refine k1_ ?_ | refine kA_ ?_ _)); exact BK304.out) hb); have n3_ := Ad_.mk (bP_ (Bo_ HB.out GE304.out) hb); clear HO_3; clear BK304; clear HB; have HO_3 := n0_; have HO307 := n1_; have BK304 := n2_; have HB := n3_; clear n0_ n1_ n2_ n3_; (try clear hb); (try clear ho0); obtain ⟨Ao20, co20, eo20⟩ := Kd.V_slice HO307.out; subst eo20))
          go_loopg [31] k2 (fun kq v31 w' => ∃ (x3_3 : List Int) (x31_3 : Int), v31 = .int .i64 x31_3 ∧ Ad_ (impl_parents.l2 kq x3_3 x23_2 l0 (l0.length : Int) x23_2 t305 (t305.length : Int) x31_3 = some r) ∧ Ad_ (kq ≤ k2) ∧ Ad_ (Kd.R (Kd.int .i64) 3 w' w.heap.size (fun _ => True) (.slice Ao6 x3_2.length co6) x3_3) ∧ Ad_ (Kd.V (Kd.int .i64) 3 w' w.heap.size (fun k_ => some k_ ≠ ((.slice Ao6 x3_2.length co6) : Value).ownBlock ∧ k_ ≠ gb304) (.slice Ao20 t305.length co20) t305) ∧ Ad_ (w'.heap[gb304]? = some (.cells #[.int .i64 ((rd_T55 l0 x23_2).f0), .int .i64 ((rd_T55 l0 x23_2).f1), .int .i64 ((rd_T55 l0 x23_2).f2), .int .i64 ((rd_T55 l0 x23_2).f3), .int .i64 ((rd_T55 l0 x23_2).f4), .string ((rd_T55 l0 x23_2).f5), .string ((rd_T55 l0 x23_2).f6)] 55 (0, 0))) ∧ Ad_ (Below w.heap.size w w'))
          case atStart => exact ⟨(x3_2), (0), fs_, H', ⟨Nat.le_refl _⟩, ⟨by (try simp only [hl3_1]); (try simp only [hl3_2]); (with_reducible repeat (first | apply Kd.R_alloc | apply Kd.R_drewN | apply Kd.R_drew)); exact HO_3.out⟩, ⟨by (try simp only [hl3_1]); (try simp only [hl3_2]); (with_reducible repeat (first | apply Kd.V_alloc | apply Kd.V_drewN | apply Kd.V_drew)); exact HO307.out⟩, ⟨by (try simp only [hl3_1]); (try simp only [hl3_2]); (with_reducible repeat (first | refine kN_ ?_ _ | refine k1_ ?_ | refine kA_ ?_ _)); exact BK304.out⟩, ⟨Bo_ HB.out GE304.out⟩⟩
          case round =>
            clear H'
            try clear p1
            try clear q1
            try clear hx1
            try clear hf1
            try clear c2b0 c2b1
            try clear p2
            try clear c3b0 c3b1
            try clear p3
            try clear q3
            try clear hx3
            try clear p6
            try clear c7b0
            try clear c8b0
            try clear c9b0
            try clear p10
            try clear q10
            try clear hx10
            try clear hf10
            try clear c13b0
            try clear c14b0
            try clear c15b0
            try clear hcz18_0 hcz18_1 hcz18_2 hcz18_3 hcz18_4 hcz18_5 hcz18_6
            try clear hfz18_0 hfz18_1 hfz18_2 hfz18_3 hfz18_4 hfz18_5 hfz18_6
            try clear hx10_0
            try clear hx303_0
            try clear hx303_1
            try clear hx303_2
            try clear hx303_3
            try clear hx303_4
            try clear hx303_5
            try clear hx303_6
            try clear p1
            try clear p10
            try clear p2
            try clear p303
            try clear p6
            try clear q1
            try clear q10
            try clear q303
            obtain ⟨x3_3, x31_3, rfl, HA, HK3, HO_3, HO_29, BK304, HB⟩ := hrel
            have hl3_3 := (Kd.R_reads' HO_3.out).1
            rw [hl3_3] at HO_3
            (try simp only [hl3_3])
            (try simp only [hl3_3] at BK304)
            (try simp only [hl3_3] at HO_29)
            cases gk with
            | zero => exact absurd HA.out (by simp [impl_parents.l2])
            | succ k3 =>
              have H := HA.out
              clear HA
              simp only [impl_parents.l2] at H
              by_cases c21 : x31_3 < (t305.length : Int)
              rotate_left
              ·
               rw [if_neg c21] at H
               have c21b0 := decide_eq_false c21
               clear c21
               have H' := Ad_.mk H
               clear H
               go_wp2
               (try simp only [← hl3_2, ← hl3_3])
               go_roundg k3
               case measure => have := HK1.out; have := HK2.out; have := HK3.out; omega
               case rel => exact ⟨(x3_3), (wrap64 (x23_2 + 1)), fs_, H', ⟨by have := HK1.out; have := HK2.out; have := HK3.out; omega⟩, ⟨by (try simp only [hl3_1]); (try simp only [hl3_2]); (try simp only [hl3_3]); (with_reducible repeat (first | apply Kd.R_alloc | apply Kd.R_drewN | apply Kd.R_drew)); exact HO_3.out⟩, ⟨Bo_ HB.out GE304.out⟩⟩
              rw [if_pos c21] at H
              have c21b0 := decide_eq_true c21
              clear c21
              by_cases c22 : 0 ≤ x31_3
              rotate_left
              ·
               rw [if_neg c22] at H
               exact absurd H (by simp)
              rw [if_pos c22] at H
              have c22b0 := decide_eq_true c22
              clear c22
              by_cases c23 : x31_3 < (t305.length : Int)
              rotate_left
              ·
               rw [if_neg c23] at H
               exact absurd H (by simp)
              rw [if_pos c23] at H
              have c23b0 := decide_eq_true c23
              clear c23
              by_cases c24 : 0 ≤ (rd t305 x31_3)
              rotate_left
              ·
               rw [if_neg c24] at H
               exact absurd H (by simp)
              rw [if_pos c24] at H
              have c24b0 := decide_eq_true c24
              clear c24
              by_cases c25 : (rd t305 x31_3) < (x3_3.length : Int)
              rotate_left
              ·
               rw [if_neg c25] at H
               exact absurd H (by simp)
              rw [if_pos c25] at H
              have c25b0 := decide_eq_true c25
              clear c25
              obtain ⟨y309, hy309⟩ : ∃ y_ : List Int, y_ = (x3_3.set ((rd t305 x31_3) : Int).toNat x23_2) := ⟨_, rfl⟩
              replace H : (impl_parents.l2 k3 y309 x23_2 l0 (l0.length : Int) x23_2 t305 (t305.length : Int) (wrap64 (x31_3 + 1))) = some r := by first | (rw [hy309]; with_reducible exact H) | (have H2_ := (Option.bind_some _ _).symm.trans H; rw [hy309]; with_reducible exact H2_) | (have H2_ := (Option.bind_some _ _).symm.trans H; with_reducible exact H2_) | with_reducible exact H | (rw [hy309]; exact H) | exact H
              have Ny309 := Ad_.mk hy309
              clear hy309
              have H' := Ad_.mk H
              clear H
              have p308 : 0 ≤ (x31_3 : Int) := od_
              have q308 : x31_3 < (t305.length : Int) := od_
              obtain ⟨ad308, e308, hx308_0⟩ := Kd.at_int (Kd.V_reads' HO_29.out).2.2 x31_3 p308 q308
              cases e308
              replace p308 := eq_true p308
              replace q308 := eq_true q308
              have p26 : 0 ≤ ((rd t305 x31_3) : Int) := od_
              have q26 : ((rd t305 x31_3) : Int) < ((x3_3.length : Int) : Int) := od_
              obtain ⟨go26, co26, eo26, gb26, gl26, cl26, HG26⟩ := Kd.R_form HO_3.out (by omega)
              (first | cases eo26 | (injection eo26 with ea_ en_ ec_; (first | subst ea_ | (injection ea_ with ea_; subst ea_)); subst ec_; clear en_))
              have GB26 := Ad_.mk gb26
              have GG26 := Ad_.mk HG26
              clear gb26 gl26 HG26
              obtain ⟨hx26_0, hf26_0⟩ := Kd.R_celln 0 HO_3.out ((rd t305 x31_3) : Int) p26 q26
              replace p26 := eq_true p26
              replace q26 := eq_true q26
              have HP27 := Kd.R_putg HO_3.out ((rd t305 x31_3) : Int) x23_2
              go_wp2_with (first | ((with_reducible refine gate_store (t := 3) (p := 38) rfl ?_); refine store_event (t := 3) (p := 38) (v := ?vo_w28) (w1 := (wr.setCell ⟨go26, ((rd t305 x31_3) : Int).toNat, none⟩ (.int .i64 x23_2))) ?hg ?ho ?hn ?hr ?_; (case ho => rfl); (case hg => rfl); (case hn => rfl); (case hr => first | (go_simp; done) | (go_simp; rfl)); intro w28 hw; have hg : wr.grownBy w28 (some go26) := (by rw [hw]; exact HP27.2); have hp_ : Kd.R (Kd.int .i64) 3 w28 w.heap.size (fun _ => True) (.slice (some ⟨go26, 0, none⟩) x3_3.length co6) y309 := (by rw [hw, Ny309.out]; exact HP27.1); clear HP27; have n0_ := Ad_.mk (hp_); have n1_ := Ad_.mk (Kd.V_afterv (v := (.slice (some ⟨go26, 0, none⟩) x3_3.length co6)) (v1 := (.slice (some ⟨go26, 0, none⟩) x3_3.length co6)) (ok := (fun k_ => k_ ≠ gb304)) (by (with_reducible repeat (first | apply Kd.V_alloc | apply Kd.V_drewN | apply Kd.V_drew)); exact Kd.V_mono HO_29.out (fun _ hk => ⟨hk.2, hk.1⟩)) hg (.inl rfl)); have n2_ := Ad_.mk (blk_grown (g := gb304) (o := .cells #[.int .i64 ((rd_T55 l0 x23_2).f0), .int .i64 ((rd_T55 l0 x23_2).f1), .int .i64 ((rd_T55 l0 x23_2).f2), .int .i64 ((rd_T55 l0 x23_2).f3), .int .i64 ((rd_T55 l0 x23_2).f4), .string ((rd_T55 l0 x23_2).f5), .string ((rd_T55 l0 x23_2).f6)] 55 (0, 0)) (Ko_ BK304.out) hg (Kd.R_ne HO_3.out BK304.out (by decide))); have n3_ := Ad_.mk ((by rw [hw]; exact bS_ (HB.out) GB26.out : Below w.heap.size w w28)); clear HO_3; clear HO_29; clear BK304; clear HB; have HO_3 := n0_; have HO_29 := n1_; have BK304 := n2_; have HB := n3_; clear n0_ n1_ n2_ n3_; clear hg hw hp_))
              (try simp only [← hl3_3])
              go_roundg k3
              case measure => have := HK1.out; have := HK2.out; have := HK3.out; omega
              case rel => exact ⟨(y309), (wrap64 (x31_3 + 1)), fs_, H', ⟨by have := HK1.out; have := HK2.out; have := HK3.out; omega⟩, ⟨by (try simp only [hl3_1]); (try simp only [hl3_2]); (try simp only [hl3_3]); (with_reducible repeat (first | apply Kd.R_alloc | apply Kd.R_drewN | apply Kd.R_drew)); exact HO_3.out⟩, ⟨by (try simp only [hl3_1]); (try simp only [hl3_2]); (try simp only [hl3_3]); (with_reducible repeat (first | apply Kd.V_alloc | apply Kd.V_drewN | apply Kd.V_drew)); exact Kd.V_mono HO_29.out (fun _ hk => ⟨hk.2, hk.1⟩)⟩, ⟨by (try simp only [hl3_1]); (try simp only [hl3_2]); (try simp only [hl3_3]); (with_reducible repeat (first | refine kN_ ?_ _ | refine k1_ ?_ | refine kA_ ?_ _)); exact BK304.out⟩, ⟨Bo_ HB.out GE304.out⟩⟩
end Go.Proofs.YtfmlamheflbgdaaDoor.PAll
end
section
namespace Go.Proofs.YtfmlamheflbgdaaDoor.PAll
open Go.RowKit Go.Proofs.YtfmlamheflbgdaaDoorW.PrintWords Go.Proofs.YtfmlamheflbgdaaDoorW.PrintLast Go.Proofs.YtfmlamheflbgdaaDoorW.PrintMore
attribute [local go_sem] max2_int min2_int max_two min_two max_three min_three max_four min_four
set_option linter.unusedVariables false
set_option linter.unusedSimpArgs false
mutual
def impl_bindsIn.j0 : Nat → Int → Bool → Int → Int → Int → Int → Int → ByteArray → ByteArray → Option (List ByteArray × List Int)
  | 0, _, _, _, _, _, _, _, _, _ => none
  | k + 1, x1, x6, x800000, x800001, x800002, x800003, x800004, x800005, x800006 => if x6 = true then (some ((([x800005] : List ByteArray)), (([0] : List Int)))) else (if x800000 = 6 then (impl_bindsIn.j1 k x1 (x1 == x800001) x800000 x800001 x800002 x800003 x800004 x800005 x800006) else (impl_bindsIn.j1 k x1 false x800000 x800001 x800002 x800003 x800004 x800005 x800006))
def impl_bindsIn.j1 : Nat → Int → Bool → Int → Int → Int → Int → Int → ByteArray → ByteArray → Option (List ByteArray × List Int)
  | 0, _, _, _, _, _, _, _, _, _ => none
  | k + 1, x1, x28, x800000, x800001, x800002, x800003, x800004, x800005, x800006 => if x28 = true then (impl_bindsIn.j2 k x28 x800000 x800001 x800002 x800003 x800004 x800005 x800006) else (if x800000 = 14 then (impl_bindsIn.j2 k (x1 == x800003) x800000 x800001 x800002 x800003 x800004 x800005 x800006) else (impl_bindsIn.j2 k false x800000 x800001 x800002 x800003 x800004 x800005 x800006))
def impl_bindsIn.j2 : Nat → Bool → Int → Int → Int → Int → Int → ByteArray → ByteArray → Option (List ByteArray × List Int)
  | 0, _, _, _, _, _, _, _, _ => none
  | k + 1, x28, x800000, x800001, x800002, x800003, x800004, x800005, x800006 => if x28 = true then (some ((([x800006, x800005] : List ByteArray)), (([1, 0] : List Int)))) else (if x800000 = 6 then (some ((([x800005] : List ByteArray)), (([0] : List Int)))) else (some (([] : List ByteArray), ([] : List Int))))
end
def impl_bindsIn.f (k : Nat) (a0_0 : Int) (a0_1 : Int) (a0_2 : Int) (a0_3 : Int) (a0_4 : Int) (a0_5 : ByteArray) (a0_6 : ByteArray) (a1 : Int) : Option (List ByteArray × List Int) := if a0_0 = 3 then (impl_bindsIn.j0 k a1 (a0_0 == 3) a0_0 a0_1 a0_2 a0_3 a0_4 a0_5 a0_6) else (if a0_0 = 5 then (impl_bindsIn.j0 k a1 (a1 == a0_2) a0_0 a0_1 a0_2 a0_3 a0_4 a0_5 a0_6) else (if a0_0 = 19 then (impl_bindsIn.j0 k a1 (a1 == a0_2) a0_0 a0_1 a0_2 a0_3 a0_4 a0_5 a0_6) else (impl_bindsIn.j0 k a1 false a0_0 a0_1 a0_2 a0_3 a0_4 a0_5 a0_6)))
set_option maxHeartbeats 8000000 in
set_option maxRecDepth 100000 in
theorem impl_bindsIn.calls (k : Nat) (a0_0 : Int) (a0_1 : Int) (a0_2 : Int) (a0_3 : Int) (a0_4 : Int) (a0_5 : ByteArray) (a0_6 : ByteArray) (a1 : Int) (r1 : List ByteArray) (r2 : List Int) (w : World) (h : impl_bindsIn.f k a0_0 a0_1 a0_2 a0_3 a0_4 a0_5 a0_6 a1 = some (r1, r2)) :
    Calls Tryd.prog 128 #[.agg #[.int .i64 a0_0, .int .i64 a0_1, .int .i64 a0_2, .int .i64 a0_3, .int .i64 a0_4, .string a0_5, .string a0_6], .int .i64 a1] w fun e w' => ∃ v0_ v1_ : Value, e = .returned (.tuple #[v0_, v1_]) ∧ Kd.R Kd.string 9 w' w.heap.size (fun _ => True) v0_ r1 ∧ Kd.R (Kd.int .i64) 3 w' w.heap.size (fun _ => True) v1_ r2 ∧ Below w.heap.size w w' := by
  have hu55 := Tryd.underlying55
  have HB := Ad_.mk (Below.refl w.heap.size w)
  have H := h
  unfold impl_bindsIn.f at H
  clear h
  have HC3 := Ad_.mk H
  clear H
  go_enter Tryd.func128, Tryd.ntmps128
  go_upto_if 6 with (first | ((with_reducible refine gD_ (N := 2) rfl ?_); refine bE_ ?hg (N := 2) ?hd (cs := #[.int .i64 a0_0, .int .i64 a0_1, .int .i64 a0_2, .int .i64 a0_3, .int .i64 a0_4, .string a0_5, .string a0_6]) (t := 55) ?hr ?_; (case hd => rfl); (case hg => rfl); (case hr => first | (go_simp; done) | (go_simp; rfl)); intro gb799 hg w4 hbox hb; have n0_ := Ad_.mk (bQ_ HB.out hb); have n1_ := Ad_.mk (hbox); have n2_ := Ad_.mk ((by rw [hg]; exact (bZ_ (Bn_ HB.out)) : w.heap.size ≤ gb799)); have n3_ := Ad_.mk ((by rw [hg]; exact (bZ_ (Bn_ HB.out)) : w.heap.size ≤ gb799)); clear HB; have HB := n0_; have BK799 := n1_; have GW799 := n2_; have GE799 := n3_; clear n0_ n1_ n2_ n3_; clear hb hbox hg; obtain ⟨hcz5_0, hcz5_1, hcz5_2, hcz5_3, hcz5_4, hcz5_5, hcz5_6⟩ := cells7_ BK799.out; obtain ⟨hfz5_0, hfz5_1, hfz5_2, hfz5_3, hfz5_4, hfz5_5, hfz5_6⟩ := froz7_ BK799.out))
  (try simp only [Act.put, List.setIfInBounds_toArray, List.set_cons_zero, List.set_cons_succ])
  go_cut [6] (fun v6 wc => ∃ (kq : Nat) (x6_2 : Bool), v6 = .bool x6_2 ∧ Ad_ (impl_bindsIn.j0 kq a1 x6_2 a0_0 a0_1 a0_2 a0_3 a0_4 a0_5 a0_6 = some (r1, r2)) ∧ Ad_ (kq ≤ k) ∧ Ad_ (wc.heap[gb799]? = some (.cells #[.int .i64 a0_0, .int .i64 a0_1, .int .i64 a0_2, .int .i64 a0_3, .int .i64 a0_4, .string a0_5, .string a0_6] 55 (0, 0))) ∧ Ad_ (Below w.heap.size w wc))
  case first =>
    have H := HC3.out
    clear HC3
    by_cases c6 : a0_0 = 3
    ·
     rw [if_pos c6] at H
     have c6b0 : (a0_0 == 3) = true := beq_iff_eq.mpr c6
     have c6b1 : (a0_0 != 3) = false := bne_eq_false_iff_eq.mpr c6
     clear c6
     (first | rw [c6b0] | (simp only [i64_w, i32_w]; rw [c6b0]) | skip)
     have H' := Ad_.mk H
     clear H
     go_wp2
     go_meet
     case rel => exact ⟨_, ((a0_0 == 3)), fs_, H', ⟨by first | omega | exact Nat.le_refl _⟩, ⟨Ko_ BK799.out⟩, ⟨Bo_ HB.out GE799.out⟩⟩
    rw [if_neg c6] at H
    have c6b0 : (a0_0 == 3) = false := beq_eq_false_iff_ne.mpr c6
    have c6b1 : (a0_0 != 3) = true := bne_iff_ne.mpr c6
    (first | rw [c6b0] | (simp only [i64_w, i32_w]; rw [c6b0]) | skip)
    by_cases c7 : a0_0 = 5
    ·
     rw [if_pos c7] at H
     have c7b0 : (a0_0 == 5) = true := beq_iff_eq.mpr c7
     have c7b1 : (a0_0 != 5) = false := bne_eq_false_iff_eq.mpr c7
     clear c7
     have H' := Ad_.mk H
     clear H
     obtain ⟨hcz8_0, hcz8_1, hcz8_2, hcz8_3, hcz8_4, hcz8_5, hcz8_6⟩ := cells7_ BK799.out
     obtain ⟨hfz8_0, hfz8_1, hfz8_2, hfz8_3, hfz8_4, hfz8_5, hfz8_6⟩ := froz7_ BK799.out
     go_wp2
     go_meet
     case rel => exact ⟨_, ((a1 == a0_2)), fs_, H', ⟨by first | omega | exact Nat.le_refl _⟩, ⟨Ko_ BK799.out⟩, ⟨Bo_ HB.out GE799.out⟩⟩
    rw [if_neg c7] at H
    have c7b0 : (a0_0 == 5) = false := beq_eq_false_iff_ne.mpr c7
    have c7b1 : (a0_0 != 5) = true := bne_iff_ne.mpr c7
    by_cases c9 : a0_0 = 19
    rotate_left
    ·
     rw [if_neg c9] at H
     have c9b0 : (a0_0 == 19) = false := beq_eq_false_iff_ne.mpr c9
     have c9b1 : (a0_0 != 19) = true := bne_iff_ne.mpr c9
     have H' := Ad_.mk H
     clear H
     obtain ⟨hcz11_0, hcz11_1, hcz11_2, hcz11_3, hcz11_4, hcz11_5, hcz11_6⟩ := cells7_ BK799.out
     obtain ⟨hfz11_0, hfz11_1, hfz11_2, hfz11_3, hfz11_4, hfz11_5, hfz11_6⟩ := froz7_ BK799.out
     go_wp2
     go_meet
     case rel => exact ⟨_, (false), fs_, H', ⟨by first | omega | exact Nat.le_refl _⟩, ⟨Ko_ BK799.out⟩, ⟨Bo_ HB.out GE799.out⟩⟩
    rw [if_pos c9] at H
    have c9b0 : (a0_0 == 19) = true := beq_iff_eq.mpr c9
    have c9b1 : (a0_0 != 19) = false := bne_eq_false_iff_eq.mpr c9
    clear c9
    have H' := Ad_.mk H
    clear H
    obtain ⟨hcz10_0, hcz10_1, hcz10_2, hcz10_3, hcz10_4, hcz10_5, hcz10_6⟩ := cells7_ BK799.out
    obtain ⟨hfz10_0, hfz10_1, hfz10_2, hfz10_3, hfz10_4, hfz10_5, hfz10_6⟩ := froz7_ BK799.out
    go_wp2
    go_meet
    case rel => exact ⟨_, ((a1 == a0_2)), fs_, H', ⟨by first | omega | exact Nat.le_refl _⟩, ⟨Ko_ BK799.out⟩, ⟨Bo_ HB.out GE799.out⟩⟩
  case rest =>
    clear HC3
    try clear p2
    try clear c6b0 c6b1
    try clear c7b0 c7b1
    try clear c9b0 c9b1
    try clear hcz10_0 hcz10_1 hcz10_2 hcz10_3 hcz10_4 hcz10_5 hcz10_6
    try clear hcz11_0 hcz11_1 hcz11_2 hcz11_3 hcz11_4 hcz11_5 hcz11_6
    try clear hcz5_0 hcz5_1 hcz5_2 hcz5_3 hcz5_4 hcz5_5 hcz5_6
    try clear hcz8_0 hcz8_1 hcz8_2 hcz8_3 hcz8_4 hcz8_5 hcz8_6
    try clear hfz10_0 hfz10_1 hfz10_2 hfz10_3 hfz10_4 hfz10_5 hfz10_6
    try clear hfz11_0 hfz11_1 hfz11_2 hfz11_3 hfz11_4 hfz11_5 hfz11_6
    try clear hfz5_0 hfz5_1 hfz5_2 hfz5_3 hfz5_4 hfz5_5 hfz5_6
    try clear hfz8_0 hfz8_1 hfz8_2 hfz8_3 hfz8_4 hfz8_5 hfz8_6
    obtain ⟨kq, x6_2, rfl, HA, HJ2, BK799, HB⟩ := hcut
    cases kq with
    | zero => exact absurd HA.out (by simp [impl_bindsIn.j0])
    | succ kj2 =>
      have H := HA.out
      clear HA
      simp only [impl_bindsIn.j0] at H
      by_cases c12 : x6_2 = true
      ·
       subst c12
       have H1 := H
       rw [if_pos rfl] at H1
       clear H
       have H := H1
       clear H1
       obtain ⟨y800, hy800⟩ : ∃ y_ : List ByteArray, y_ = (([a0_5] : List ByteArray)) := ⟨_, rfl⟩
       replace H : (some (y800, (([0] : List Int)))) = some (r1, r2) := by first | (rw [hy800]; with_reducible exact H) | (have H2_ := (Option.bind_some _ _).symm.trans H; rw [hy800]; with_reducible exact H2_) | (have H2_ := (Option.bind_some _ _).symm.trans H; with_reducible exact H2_) | with_reducible exact H | (rw [hy800]; exact H) | exact H
       have Ny800 := Ad_.mk hy800
       clear hy800
       obtain ⟨y803, hy803⟩ : ∃ y_ : List Int, y_ = (([0] : List Int)) := ⟨_, rfl⟩
       replace H : (some (y800, y803)) = some (r1, r2) := by first | (rw [hy803]; with_reducible exact H) | (have H2_ := (Option.bind_some _ _).symm.trans H; rw [hy803]; with_reducible exact H2_) | (have H2_ := (Option.bind_some _ _).symm.trans H; with_reducible exact H2_) | with_reducible exact H | (rw [hy803]; exact H) | exact H
       have Ny803 := Ad_.mk hy803
       clear hy803
       simp only [Option.some.injEq, Prod.mk.injEq] at H
       obtain ⟨rfl, rfl⟩ := H
       obtain ⟨hcz13_0, hcz13_1, hcz13_2, hcz13_3, hcz13_4, hcz13_5, hcz13_6⟩ := cells7_ BK799.out
       obtain ⟨hfz13_0, hfz13_1, hfz13_2, hfz13_3, hfz13_4, hfz13_5, hfz13_6⟩ := froz7_ BK799.out
       go_wp2_with (first | ((with_reducible refine gD_ (N := 26) rfl ?_); refine Kd.R_lit Kd.string _ 9 ?hg (N := 26) ?hd (xs := ([a0_5] : List ByteArray)) (inner := [.string a0_5]) (ok := fun _ => True) (okp := fun _ => True) ?hr ?hp (fun _ hk => hk) trivial (Below.refl _ _) (Nat.le_refl _) (by simp) ?_; (case hd => rfl); (case hg => rfl); (case hr => first | (go_simp; done) | (go_simp; rfl)); (case hp => exact (Reps.one (show Kd.M Kd.string _ _ _ a0_5 [.string a0_5] from rfl) (Reps.none _ _))); intro v801 w14 ho15 hb hg_ hnew_; clear hg_ hnew_; (first | rw [← Ny800.out] at ho15 | (simp only [Int.reduceToNat] at ho15; rw [← Ny800.out] at ho15)); have n0_ := Ad_.mk (Kd.R_lower ho15 (bZ_ (Bo_ HB.out GE799.out))); have n1_ := Ad_.mk (blk_below (g := gb799) (o := .cells #[.int .i64 a0_0, .int .i64 a0_1, .int .i64 a0_2, .int .i64 a0_3, .int .i64 a0_4, .string a0_5, .string a0_6] 55 (0, 0)) (Ko_ BK799.out) hb); have n2_ := Ad_.mk (bP_ (Bo_ HB.out GE799.out) hb); clear BK799; clear HB; have HO802 := n0_; have BK799 := n1_; have HB := n2_; clear n0_ n1_ n2_; clear hb ho15) | ((with_reducible refine gD_ (N := 27) rfl ?_); refine Kd.R_lit (Kd.int .i64) _ 3 ?hg (N := 27) ?hd (xs := ([0] : List Int)) (inner := [.int .i64 0]) (ok := fun _ => True) (okp := fun _ => True) ?hr ?hp (fun _ hk => hk) trivial (Below.refl _ _) (Nat.le_refl _) (by simp) ?_; (case hd => rfl); (case hg => rfl); (case hr => first | (go_simp; done) | (go_simp; rfl)); (case hp => exact (Reps.one (show Kd.M (Kd.int .i64) _ _ _ 0 [.int .i64 0] from rfl) (Reps.none _ _))); intro v804 w16 ho17 hb hg_ hnew_; clear hg_ hnew_; (first | rw [← Ny803.out] at ho17 | (simp only [Int.reduceToNat] at ho17; rw [← Ny803.out] at ho17)); have n0_ := Ad_.mk (Rb_ HO802.out hb); have n1_ := Ad_.mk (Kd.R_lower ho17 (bZ_ (Bo_ HB.out GE799.out))); have n2_ := Ad_.mk (blk_below (g := gb799) (o := .cells #[.int .i64 a0_0, .int .i64 a0_1, .int .i64 a0_2, .int .i64 a0_3, .int .i64 a0_4, .string a0_5, .string a0_6] 55 (0, 0)) (Ko_ BK799.out) hb); have n3_ := Ad_.mk (bP_ (Bo_ HB.out GE799.out) hb); clear HO802; clear BK799; clear HB; have HO802 := n0_; have HO805 := n1_; have BK799 := n2_; have HB := n3_; clear n0_ n1_ n2_ n3_; clear hb ho17))
       go_ret2
       exact ⟨_, _, er_, by (with_reducible repeat (first | apply Kd.R_alloc | apply Kd.R_drewN | apply Kd.R_drew)); exact HO802.out, by (with_reducible repeat (first | apply Kd.R_alloc | apply Kd.R_drewN | apply Kd.R_drew)); exact HO805.out, Bo_ HB.out GE799.out⟩
      replace c12 := Bool.eq_false_iff.mpr c12
      subst c12
      have H1 : (if a0_0 = 6 then (impl_bindsIn.j1 kj2 a1 (a1 == a0_1) a0_0 a0_1 a0_2 a0_3 a0_4 a0_5 a0_6) else (impl_bindsIn.j1 kj2 a1 false a0_0 a0_1 a0_2 a0_3 a0_4 a0_5 a0_6)) = some (r1, r2) := by rw [if_neg (show ¬ (false = true) by decide)] at H; exact H
      clear H
      have H := H1
      clear H1
      have HC18 := Ad_.mk H
      clear H
      go_upto_region 4 with (fail)
      go_cut [28] (fun v28 wc => ∃ (kq : Nat) (x28_17 : Bool), v28 = .bool x28_17 ∧ Ad_ (impl_bindsIn.j1 kq a1 x28_17 a0_0 a0_1 a0_2 a0_3 a0_4 a0_5 a0_6 = some (r1, r2)) ∧ Ad_ (kq ≤ kj2) ∧ Ad_ (wc.heap[gb799]? = some (.cells #[.int .i64 a0_0, .int .i64 a0_1, .int .i64 a0_2, .int .i64 a0_3, .int .i64 a0_4, .string a0_5, .string a0_6] 55 (0, 0))) ∧ Ad_ (Below w.heap.size w wc))
      case first =>
        have H := HC18.out
        clear HC18
        by_cases c19 : a0_0 = 6
        rotate_left
        ·
         rw [if_neg c19] at H
         have c19b0 : (a0_0 == 6) = false := beq_eq_false_iff_ne.mpr c19
         have c19b1 : (a0_0 != 6) = true := bne_iff_ne.mpr c19
         (first | rw [c19b0] | (simp only [i64_w, i32_w]; rw [c19b0]) | skip)
         have H' := Ad_.mk H
         clear H
         obtain ⟨hcz21_0, hcz21_1, hcz21_2, hcz21_3, hcz21_4, hcz21_5, hcz21_6⟩ := cells7_ BK799.out
         obtain ⟨hfz21_0, hfz21_1, hfz21_2, hfz21_3, hfz21_4, hfz21_5, hfz21_6⟩ := froz7_ BK799.out
         go_wp2
         go_meet
         case rel => exact ⟨_, (false), fs_, H', ⟨by have := HJ2.out; first | omega | exact Nat.le_refl _⟩, ⟨Ko_ BK799.out⟩, ⟨Bo_ HB.out GE799.out⟩⟩
        rw [if_pos c19] at H
        have c19b0 : (a0_0 == 6) = true := beq_iff_eq.mpr c19
        have c19b1 : (a0_0 != 6) = false := bne_eq_false_iff_eq.mpr c19
        clear c19
        (first | rw [c19b0] | (simp only [i64_w, i32_w]; rw [c19b0]) | skip)
        have H' := Ad_.mk H
        clear H
        obtain ⟨hcz20_0, hcz20_1, hcz20_2, hcz20_3, hcz20_4, hcz20_5, hcz20_6⟩ := cells7_ BK799.out
        obtain ⟨hfz20_0, hfz20_1, hfz20_2, hfz20_3, hfz20_4, hfz20_5, hfz20_6⟩ := froz7_ BK799.out
        go_wp2
        go_meet
        case rel => exact ⟨_, ((a1 == a0_1)), fs_, H', ⟨by have := HJ2.out; first | omega | exact Nat.le_refl _⟩, ⟨Ko_ BK799.out⟩, ⟨Bo_ HB.out GE799.out⟩⟩
      case rest =>
        clear HC18
        try clear p2
        try clear c6b0 c6b1
        try clear c7b0 c7b1
        try clear c9b0 c9b1
        try clear c19b0 c19b1
        try clear hcz10_0 hcz10_1 hcz10_2 hcz10_3 hcz10_4 hcz10_5 hcz10_6
        try clear hcz11_0 hcz11_1 hcz11_2 hcz11_3 hcz11_4 hcz11_5 hcz11_6
        try clear hcz13_0 hcz13_1 hcz13_2 hcz13_3 hcz13_4 hcz13_5 hcz13_6
        try clear hcz20_0 hcz20_1 hcz20_2 hcz20_3 hcz20_4 hcz20_5 hcz20_6
        try clear hcz21_0 hcz21_1 hcz21_2 hcz21_3 hcz21_4 hcz21_5 hcz21_6
        try clear hcz5_0 hcz5_1 hcz5_2 hcz5_3 hcz5_4 hcz5_5 hcz5_6
        try clear hcz8_0 hcz8_1 hcz8_2 hcz8_3 hcz8_4 hcz8_5 hcz8_6
        try clear hfz10_0 hfz10_1 hfz10_2 hfz10_3 hfz10_4 hfz10_5 hfz10_6
        try clear hfz11_0 hfz11_1 hfz11_2 hfz11_3 hfz11_4 hfz11_5 hfz11_6
        try clear hfz13_0 hfz13_1 hfz13_2 hfz13_3 hfz13_4 hfz13_5 hfz13_6
        try clear hfz20_0 hfz20_1 hfz20_2 hfz20_3 hfz20_4 hfz20_5 hfz20_6
        try clear hfz21_0 hfz21_1 hfz21_2 hfz21_3 hfz21_4 hfz21_5 hfz21_6
        try clear hfz5_0 hfz5_1 hfz5_2 hfz5_3 hfz5_4 hfz5_5 hfz5_6
        try clear hfz8_0 hfz8_1 hfz8_2 hfz8_3 hfz8_4 hfz8_5 hfz8_6
        try clear p2
        obtain ⟨kq, x28_17, rfl, HA, HJ17, BK799, HB⟩ := hcut
        cases kq with
        | zero => exact absurd HA.out (by simp [impl_bindsIn.j1])
        | succ kj17 =>
          have H := HA.out
          clear HA
          simp only [impl_bindsIn.j1] at H
          have HC22 := Ad_.mk H
          clear H
          go_upto_if 28 with (fail)
          go_cut [28] (fun v28 wc => ∃ (kq : Nat) (x28_21 : Bool), v28 = .bool x28_21 ∧ Ad_ (impl_bindsIn.j2 kq x28_21 a0_0 a0_1 a0_2 a0_3 a0_4 a0_5 a0_6 = some (r1, r2)) ∧ Ad_ (kq ≤ kj17) ∧ Ad_ (wc.heap[gb799]? = some (.cells #[.int .i64 a0_0, .int .i64 a0_1, .int .i64 a0_2, .int .i64 a0_3, .int .i64 a0_4, .string a0_5, .string a0_6] 55 (0, 0))) ∧ Ad_ (Below w.heap.size w wc))
          case first =>
            have H := HC22.out
            clear HC22
            by_cases c23 : x28_17 = true
            ·
             subst c23
             have H1 := H
             rw [if_pos rfl] at H1
             clear H
             have H := H1
             clear H1
             have H' := Ad_.mk H
             clear H
             go_wp2
             go_meet
             case rel => exact ⟨_, (true), fs_, H', ⟨by have := HJ2.out; have := HJ17.out; first | omega | exact Nat.le_refl _⟩, ⟨Ko_ BK799.out⟩, ⟨Bo_ HB.out GE799.out⟩⟩
            replace c23 := Bool.eq_false_iff.mpr c23
            subst c23
            have H1 : (if a0_0 = 14 then (impl_bindsIn.j2 kj17 (a1 == a0_3) a0_0 a0_1 a0_2 a0_3 a0_4 a0_5 a0_6) else (impl_bindsIn.j2 kj17 false a0_0 a0_1 a0_2 a0_3 a0_4 a0_5 a0_6)) = some (r1, r2) := by rw [if_neg (show ¬ (false = true) by decide)] at H; exact H
            clear H
            have H := H1
            clear H1
            by_cases c24 : a0_0 = 14
            rotate_left
            ·
             rw [if_neg c24] at H
             have c24b0 : (a0_0 == 14) = false := beq_eq_false_iff_ne.mpr c24
             have c24b1 : (a0_0 != 14) = true := bne_iff_ne.mpr c24
             (first | rw [c24b0] | (simp only [i64_w, i32_w]; rw [c24b0]) | skip)
             have H' := Ad_.mk H
             clear H
             obtain ⟨hcz26_0, hcz26_1, hcz26_2, hcz26_3, hcz26_4, hcz26_5, hcz26_6⟩ := cells7_ BK799.out
             obtain ⟨hfz26_0, hfz26_1, hfz26_2, hfz26_3, hfz26_4, hfz26_5, hfz26_6⟩ := froz7_ BK799.out
             go_wp2
             go_meet
             case rel => exact ⟨_, (false), fs_, H', ⟨by have := HJ2.out; have := HJ17.out; first | omega | exact Nat.le_refl _⟩, ⟨Ko_ BK799.out⟩, ⟨Bo_ HB.out GE799.out⟩⟩
            rw [if_pos c24] at H
            have c24b0 : (a0_0 == 14) = true := beq_iff_eq.mpr c24
            have c24b1 : (a0_0 != 14) = false := bne_eq_false_iff_eq.mpr c24
            clear c24
            (first | rw [c24b0] | (simp only [i64_w, i32_w]; rw [c24b0]) | skip)
            have H' := Ad_.mk H
            clear H
            obtain ⟨hcz25_0, hcz25_1, hcz25_2, hcz25_3, hcz25_4, hcz25_5, hcz25_6⟩ := cells7_ BK799.out
            obtain ⟨hfz25_0, hfz25_1, hfz25_2, hfz25_3, hfz25_4, hfz25_5, hfz25_6⟩ := froz7_ BK799.out
            go_wp2
            go_meet
            case rel => exact ⟨_, ((a1 == a0_3)), fs_, H', ⟨by have := HJ2.out; have := HJ17.out; first | omega | exact Nat.le_refl _⟩, ⟨Ko_ BK799.out⟩, ⟨Bo_ HB.out GE799.out⟩⟩
          case rest =>
            clear HC22
            try clear p2
            try clear c6b0 c6b1
            try clear c7b0 c7b1
            try clear c9b0 c9b1
            try clear c19b0 c19b1
            try clear c24b0 c24b1
            try clear hcz10_0 hcz10_1 hcz10_2 hcz10_3 hcz10_4 hcz10_5 hcz10_6
            try clear hcz11_0 hcz11_1 hcz11_2 hcz11_3 hcz11_4 hcz11_5 hcz11_6
            try clear hcz13_0 hcz13_1 hcz13_2 hcz13_3 hcz13_4 hcz13_5 hcz13_6
            try clear hcz20_0 hcz20_1 hcz20_2 hcz20_3 hcz20_4 hcz20_5 hcz20_6
            try clear hcz21_0 hcz21_1 hcz21_2 hcz21_3 hcz21_4 hcz21_5 hcz21_6
            try clear hcz25_0 hcz25_1 hcz25_2 hcz25_3 hcz25_4 hcz25_5 hcz25_6
            try clear hcz26_0 hcz26_1 hcz26_2 hcz26_3 hcz26_4 hcz26_5 hcz26_6
            try clear hcz5_0 hcz5_1 hcz5_2 hcz5_3 hcz5_4 hcz5_5 hcz5_6
            try clear hcz8_0 hcz8_1 hcz8_2 hcz8_3 hcz8_4 hcz8_5 hcz8_6
            try clear hfz10_0 hfz10_1 hfz10_2 hfz10_3 hfz10_4 hfz10_5 hfz10_6
            try clear hfz11_0 hfz11_1 hfz11_2 hfz11_3 hfz11_4 hfz11_5 hfz11_6
            try clear hfz13_0 hfz13_1 hfz13_2 hfz13_3 hfz13_4 hfz13_5 hfz13_6
            try clear hfz20_0 hfz20_1 hfz20_2 hfz20_3 hfz20_4 hfz20_5 hfz20_6
            try clear hfz21_0 hfz21_1 hfz21_2 hfz21_3 hfz21_4 hfz21_5 hfz21_6
            try clear hfz25_0 hfz25_1 hfz25_2 hfz25_3 hfz25_4 hfz25_5 hfz25_6
            try clear hfz26_0 hfz26_1 hfz26_2 hfz26_3 hfz26_4 hfz26_5 hfz26_6
            try clear hfz5_0 hfz5_1 hfz5_2 hfz5_3 hfz5_4 hfz5_5 hfz5_6
            try clear hfz8_0 hfz8_1 hfz8_2 hfz8_3 hfz8_4 hfz8_5 hfz8_6
            try clear p2
            obtain ⟨kq, x28_21, rfl, HA, HJ21, BK799, HB⟩ := hcut
            cases kq with
            | zero => exact absurd HA.out (by simp [impl_bindsIn.j2])
            | succ kj21 =>
              have H := HA.out
              clear HA
              simp only [impl_bindsIn.j2] at H
              by_cases c27 : x28_21 = true
              ·
               subst c27
               have H1 := H
               rw [if_pos rfl] at H1
               clear H
               have H := H1
               clear H1
               obtain ⟨y806, hy806⟩ : ∃ y_ : List ByteArray, y_ = (([a0_6, a0_5] : List ByteArray)) := ⟨_, rfl⟩
               replace H : (some (y806, (([1, 0] : List Int)))) = some (r1, r2) := by first | (rw [hy806]; with_reducible exact H) | (have H2_ := (Option.bind_some _ _).symm.trans H; rw [hy806]; with_reducible exact H2_) | (have H2_ := (Option.bind_some _ _).symm.trans H; with_reducible exact H2_) | with_reducible exact H | (rw [hy806]; exact H) | exact H
               have Ny806 := Ad_.mk hy806
               clear hy806
               obtain ⟨y809, hy809⟩ : ∃ y_ : List Int, y_ = (([1, 0] : List Int)) := ⟨_, rfl⟩
               replace H : (some (y806, y809)) = some (r1, r2) := by first | (rw [hy809]; with_reducible exact H) | (have H2_ := (Option.bind_some _ _).symm.trans H; rw [hy809]; with_reducible exact H2_) | (have H2_ := (Option.bind_some _ _).symm.trans H; with_reducible exact H2_) | with_reducible exact H | (rw [hy809]; exact H) | exact H
               have Ny809 := Ad_.mk hy809
               clear hy809
               simp only [Option.some.injEq, Prod.mk.injEq] at H
               obtain ⟨rfl, rfl⟩ := H
               obtain ⟨hcz28_0, hcz28_1, hcz28_2, hcz28_3, hcz28_4, hcz28_5, hcz28_6⟩ := cells7_ BK799.out
               obtain ⟨hfz28_0, hfz28_1, hfz28_2, hfz28_3, hfz28_4, hfz28_5, hfz28_6⟩ := froz7_ BK799.out
               go_wp2_with (first | ((with_reducible refine gD_ (N := 51) rfl ?_); refine Kd.R_lit Kd.string _ 9 ?hg (N := 51) ?hd (xs := ([a0_6, a0_5] : List ByteArray)) (inner := [.string a0_6, .string a0_5]) (ok := fun _ => True) (okp := fun _ => True) ?hr ?hp (fun _ hk => hk) trivial (Below.refl _ _) (Nat.le_refl _) (by simp) ?_; (case hd => rfl); (case hg => rfl); (case hr => first | (go_simp; done) | (go_simp; rfl)); (case hp => exact (Reps.one (show Kd.M Kd.string _ _ _ a0_6 [.string a0_6] from rfl) (Reps.one (show Kd.M Kd.string _ _ _ a0_5 [.string a0_5] from rfl) (Reps.none _ _)))); intro v807 w29 ho30 hb hg_ hnew_; clear hg_ hnew_; (first | rw [← Ny806.out] at ho30 | (simp only [Int.reduceToNat] at ho30; rw [← Ny806.out] at ho30)); have n0_ := Ad_.mk (Kd.R_lower ho30 (bZ_ (Bo_ HB.out GE799.out))); have n1_ := Ad_.mk (blk_below (g := gb799) (o := .cells #[.int .i64 a0_0, .int .i64 a0_1, .int .i64 a0_2, .int .i64 a0_3, .int .i64 a0_4, .string a0_5, .string a0_6] 55 (0, 0)) (Ko_ BK799.out) hb); have n2_ := Ad_.mk (bP_ (Bo_ HB.out GE799.out) hb); clear BK799; clear HB; have HO808 := n0_; have BK799 := n1_; have HB := n2_; clear n0_ n1_ n2_; clear hb ho30) | ((with_reducible refine gD_ (N := 52) rfl ?_); refine Kd.R_lit (Kd.int .i64) _ 3 ?hg (N := 52) ?hd (xs := ([1, 0] : List Int)) (inner := [.int .i64 1, .int .i64 0]) (ok := fun _ => True) (okp := fun _ => True) ?hr ?hp (fun _ hk => hk) trivial (Below.refl _ _) (Nat.le_refl _) (by simp) ?_; (case hd => rfl); (case hg => rfl); (case hr => first | (go_simp; done) | (go_simp; rfl)); (case hp => exact (Reps.one (show Kd.M (Kd.int .i64) _ _ _ 1 [.int .i64 1] from rfl) (Reps.one (show Kd.M (Kd.int .i64) _ _ _ 0 [.int .i64 0] from rfl) (Reps.none _ _)))); intro v810 w31 ho32 hb hg_ hnew_; clear hg_ hnew_; (first | rw [← Ny809.out] at ho32 | (simp only [Int.reduceToNat] at ho32; rw [← Ny809.out] at ho32)); have n0_ := Ad_.mk (Rb_ HO808.out hb); have n1_ := Ad_.mk (Kd.R_lower ho32 (bZ_ (Bo_ HB.out GE799.out))); have n2_ := Ad_.mk (blk_below (g := gb799) (o := .cells #[.int .i64 a0_0, .int .i64 a0_1, .int .i64 a0_2, .int .i64 a0_3, .int .i64 a0_4, .string a0_5, .string a0_6] 55 (0, 0)) (Ko_ BK799.out) hb); have n3_ := Ad_.mk (bP_ (Bo_ HB.out GE799.out) hb); clear HO808; clear BK799; clear HB; have HO808 := n0_; have HO811 := n1_; have BK799 := n2_; have HB := n3_; clear n0_ n1_ n2_ n3_; clear hb ho32))
               go_ret2
               exact ⟨_, _, er_, by (with_reducible repeat (first | apply Kd.R_alloc | apply Kd.R_drewN | apply Kd.R_drew)); exact HO808.out, by (with_reducible repeat (first | apply Kd.R_alloc | apply Kd.R_drewN | apply Kd.R_drew)); exact HO811.out, Bo_ HB.out GE799.out⟩
              replace c27 := Bool.eq_false_iff.mpr c27
              subst c27
              have H1 : (if a0_0 = 6 then (some ((([a0_5] : List ByteArray)), (([0] : List Int)))) else (some (([] : List ByteArray), ([] : List Int)))) = some (r1, r2) := by rw [if_neg (show ¬ (false = true) by decide)] at H; exact H
              clear H
              have H := H1
              clear H1
              by_cases c33 : a0_0 = 6
              rotate_left
              ·
               rw [if_neg c33] at H
               have c33b0 : (a0_0 == 6) = false := beq_eq_false_iff_ne.mpr c33
               have c33b1 : (a0_0 != 6) = true := bne_iff_ne.mpr c33
               simp only [Option.some.injEq, Prod.mk.injEq] at H
               obtain ⟨rfl, rfl⟩ := H
               obtain ⟨hcz39_0, hcz39_1, hcz39_2, hcz39_3, hcz39_4, hcz39_5, hcz39_6⟩ := cells7_ BK799.out
               obtain ⟨hfz39_0, hfz39_1, hfz39_2, hfz39_3, hfz39_4, hfz39_5, hfz39_6⟩ := froz7_ BK799.out
               go_wp2
               go_ret2
               exact ⟨_, _, er_, by first | exact Kd.R_nil _ _ _ _ _ | exact Kd.N_nil _ _ _ _ _ | exact Kd.V_nil _ _ _ _ _ | exact Kd.Q_nil _ _ _ _ _ | exact Kd.S_nil _ _ _ _ _, by first | exact Kd.R_nil _ _ _ _ _ | exact Kd.N_nil _ _ _ _ _ | exact Kd.V_nil _ _ _ _ _ | exact Kd.Q_nil _ _ _ _ _ | exact Kd.S_nil _ _ _ _ _, Bo_ HB.out GE799.out⟩
              rw [if_pos c33] at H
              have c33b0 : (a0_0 == 6) = true := beq_iff_eq.mpr c33
              have c33b1 : (a0_0 != 6) = false := bne_eq_false_iff_eq.mpr c33
              clear c33
              obtain ⟨y812, hy812⟩ : ∃ y_ : List ByteArray, y_ = (([a0_5] : List ByteArray)) := ⟨_, rfl⟩
              replace H : (some (y812, (([0] : List Int)))) = some (r1, r2) := by first | (rw [hy812]; with_reducible exact H) | (have H2_ := (Option.bind_some _ _).symm.trans H; rw [hy812]; with_reducible exact H2_) | (have H2_ := (Option.bind_some _ _).symm.trans H; with_reducible exact H2_) | with_reducible exact H | (rw [hy812]; exact H) | exact H
              have Ny812 := Ad_.mk hy812
              clear hy812
              obtain ⟨y815, hy815⟩ : ∃ y_ : List Int, y_ = (([0] : List Int)) := ⟨_, rfl⟩
              replace H : (some (y812, y815)) = some (r1, r2) := by first | (rw [hy815]; with_reducible exact H) | (have H2_ := (Option.bind_some _ _).symm.trans H; rw [hy815]; with_reducible exact H2_) | (have H2_ := (Option.bind_some _ _).symm.trans H; with_reducible exact H2_) | with_reducible exact H | (rw [hy815]; exact H) | exact H
              have Ny815 := Ad_.mk hy815
              clear hy815
              simp only [Option.some.injEq, Prod.mk.injEq] at H
              obtain ⟨rfl, rfl⟩ := H
              obtain ⟨hcz34_0, hcz34_1, hcz34_2, hcz34_3, hcz34_4, hcz34_5, hcz34_6⟩ := cells7_ BK799.out
              obtain ⟨hfz34_0, hfz34_1, hfz34_2, hfz34_3, hfz34_4, hfz34_5, hfz34_6⟩ := froz7_ BK799.out
              go_wp2_with (first | ((with_reducible refine gD_ (N := 59) rfl ?_); refine Kd.R_lit Kd.string _ 9 ?hg (N := 59) ?hd (xs := ([a0_5] : List ByteArray)) (inner := [.string a0_5]) (ok := fun _ => True) (okp := fun _ => True) ?hr ?hp (fun _ hk => hk) trivial (Below.refl _ _) (Nat.le_refl _) (by simp) ?_; (case hd => rfl); (case hg => rfl); (case hr => first | (go_simp; done) | (go_simp; rfl)); (case hp => exact (Reps.one (show Kd.M Kd.string _ _ _ a0_5 [.string a0_5] from rfl) (Reps.none _ _))); intro v813 w35 ho36 hb hg_ hnew_; clear hg_ hnew_; (first | rw [← Ny812.out] at ho36 | (simp only [Int.reduceToNat] at ho36; rw [← Ny812.out] at ho36)); have n0_ := Ad_.mk (Kd.R_lower ho36 (bZ_ (Bo_ HB.out GE799.out))); have n1_ := Ad_.mk (blk_below (g := gb799) (o := .cells #[.int .i64 a0_0, .int .i64 a0_1, .int .i64 a0_2, .int .i64 a0_3, .int .i64 a0_4, .string a0_5, .string a0_6] 55 (0, 0)) (Ko_ BK799.out) hb); have n2_ := Ad_.mk (bP_ (Bo_ HB.out GE799.out) hb); clear BK799; clear HB; have HO814 := n0_; have BK799 := n1_; have HB := n2_; clear n0_ n1_ n2_; clear hb ho36) | ((with_reducible refine gD_ (N := 60) rfl ?_); refine Kd.R_lit (Kd.int .i64) _ 3 ?hg (N := 60) ?hd (xs := ([0] : List Int)) (inner := [.int .i64 0]) (ok := fun _ => True) (okp := fun _ => True) ?hr ?hp (fun _ hk => hk) trivial (Below.refl _ _) (Nat.le_refl _) (by simp) ?_; (case hd => rfl); (case hg => rfl); (case hr => first | (go_simp; done) | (go_simp; rfl)); (case hp => exact (Reps.one (show Kd.M (Kd.int .i64) _ _ _ 0 [.int .i64 0] from rfl) (Reps.none _ _))); intro v816 w37 ho38 hb hg_ hnew_; clear hg_ hnew_; (first | rw [← Ny815.out] at ho38 | (simp only [Int.reduceToNat] at ho38; rw [← Ny815.out] at ho38)); have n0_ := Ad_.mk (Rb_ HO814.out hb); have n1_ := Ad_.mk (Kd.R_lower ho38 (bZ_ (Bo_ HB.out GE799.out))); have n2_ := Ad_.mk (blk_below (g := gb799) (o := .cells #[.int .i64 a0_0, .int .i64 a0_1, .int .i64 a0_2, .int .i64 a0_3, .int .i64 a0_4, .string a0_5, .string a0_6] 55 (0, 0)) (Ko_ BK799.out) hb); have n3_ := Ad_.mk (bP_ (Bo_ HB.out GE799.out) hb); clear HO814; clear BK799; clear HB; have HO814 := n0_; have HO817 := n1_; have BK799 := n2_; have HB := n3_; clear n0_ n1_ n2_ n3_; clear hb ho38))
              go_ret2
              exact ⟨_, _, er_, by (with_reducible repeat (first | apply Kd.R_alloc | apply Kd.R_drewN | apply Kd.R_drew)); exact HO814.out, by (with_reducible repeat (first | apply Kd.R_alloc | apply Kd.R_drewN | apply Kd.R_drew)); exact HO817.out, Bo_ HB.out GE799.out⟩
end Go.Proofs.YtfmlamheflbgdaaDoor.PAll
end
section
namespace Go.Proofs.YtfmlamheflbgdaaDoor.PAll
open Go.RowKit Go.Proofs.YtfmlamheflbgdaaDoorW.PrintWords Go.Proofs.YtfmlamheflbgdaaDoorW.PrintLast Go.Proofs.YtfmlamheflbgdaaDoorW.PrintMore
attribute [local go_sem] max2_int min2_int max_two min_two max_three min_three max_four min_four
set_option linter.unusedVariables false
set_option linter.unusedSimpArgs false
mutual
def impl_binderOf.l0 : Nat → List (S55) → List Int → Int → ByteArray → Option (Int × Int)
  | 0, _, _, _, _ => none
  | k + 1, x0, x1, x2, x3 => if 0 ≤ x2 then (if x2 < (x1.length : Int) then (if (rd x1 x2) ≥ 0 then (if 0 ≤ (rd x1 x2) then (if (rd x1 x2) < (x0.length : Int) then ((impl_bindsIn.f k ((rd_T55 x0 (rd x1 x2)).f0) ((rd_T55 x0 (rd x1 x2)).f1) ((rd_T55 x0 (rd x1 x2)).f2) ((rd_T55 x0 (rd x1 x2)).f3) ((rd_T55 x0 (rd x1 x2)).f4) ((rd_T55 x0 (rd x1 x2)).f5) ((rd_T55 x0 (rd x1 x2)).f6) x2).bind fun bt822 => (impl_binderOf.l1 k x0 x1 x2 x3 bt822.2 bt822.1 (bt822.1.length : Int) 0)) else (none)) else (none)) else (some ((-1), (-1)))) else (none)) else (none)
def impl_binderOf.l1 : Nat → List (S55) → List Int → Int → ByteArray → List Int → List ByteArray → Int → Int → Option (Int × Int)
  | 0, _, _, _, _, _, _, _, _ => none
  | k + 1, x0, x1, x2, x3, x10, x30, x31, x32 => if x32 < x31 then (if 0 ≤ x32 then (if x32 < (x30.length : Int) then (if (rdOf ByteArray.empty x30 x32).toList = x3.toList then (if 0 ≤ x2 then (if x2 < (x1.length : Int) then (if x32 < (x10.length : Int) then (some (rd x1 x2, rd x10 x32)) else (none)) else (none)) else (none)) else (impl_binderOf.l1 k x0 x1 x2 x3 x10 x30 x31 (wrap64 (x32 + 1)))) else (none)) else (none)) else (if 0 ≤ x2 then (if x2 < (x1.length : Int) then (impl_binderOf.l0 k x0 x1 (rd x1 x2) x3) else (none)) else (none))
end
def impl_binderOf.f (k : Nat) (l0 : List (S55)) (l1 : List Int) (a2 : Int) (a3 : ByteArray) : Option (Int × Int) := impl_binderOf.l0 k l0 l1 a2 a3
def impl_binderOf.T7 : Bool × List (List Nat × List Nat) := (true, [([], []), ([], []), ([0, 1], [0, 1]), ([2], [2]), ([], []), ([], []), ([4, 5], [4, 5]), ([6], [6]), ([3, 7], [3, 7]), ([8, 0, 1, 2, 3, 4, 5, 6, 7, 8], [8])])
def impl_binderOf.B7 : List Nat := [0, 0, 3, 7, 0, 0, 48, 112, 255, 511]
theorem impl_binderOf.tab7 : rtab .any (opsOf Tryd.f111 7) = impl_binderOf.T7 := by kernel_rfl
theorem impl_binderOf.bits7 : waitsOk impl_binderOf.T7.2 impl_binderOf.B7 = true := by kernel_rfl
set_option maxHeartbeats 8000000 in
set_option maxRecDepth 100000 in
theorem impl_binderOf.calls (k : Nat) (A0 : Option Addr) (c0 : Nat) (l0 : List (S55)) (A1 : Option Addr) (c1 : Nat) (l1 : List Int) (a2 : Int) (a3 : ByteArray) (r1 : Int) (r2 : Int) (w : World) (hr0 : Kd.C k55 w A0 l0.length l0) (hc0 : l0.length ≤ c0) (hr1 : Kd.C (Kd.int .i64) w A1 l1.length l1) (hc1 : l1.length ≤ c1) (h : impl_binderOf.f k l0 l1 a2 a3 = some (r1, r2)) :
    Calls Tryd.prog 111 #[.slice A0 l0.length c0, .slice A1 l1.length c1, .int .i64 a2, .string a3] w fun e w' => e = .returned (.agg #[.int .i64 r1, .int .i64 r2]) ∧ Below w.heap.size w w' := by
  have hu59 := Tryd.underlying59
  have hu55 := Tryd.underlying55
  have HR0 := Ad_.mk hr0
  have HC0 := Ad_.mk hc0
  clear hr0 hc0
  have HR1 := Ad_.mk hr1
  have HC1 := Ad_.mk hc1
  clear hr1 hc1
  have HB := Ad_.mk (Below.refl w.heap.size w)
  have H : (impl_binderOf.l0 k l0 l1 a2 a3) = some (r1, r2) := h
  clear h
  have H' := Ad_.mk H
  clear H
  go_enter Tryd.func111, Tryd.ntmps111
  go_wp2_with (first | ((with_reducible refine gD_ (N := 8) rfl ?_); refine bE_ ?hg (N := 8) ?hd (cs := #[.int .i64 0, .int .i64 0]) (t := 59) ?hr ?_; (case hd => rfl); (case hg => rfl); (case hr => first | (go_simp; done) | (go_simp; rfl)); intro gb818 hg w5 hbox hb; have n0_ := Ad_.mk (bQ_ HB.out hb); have n1_ := Ad_.mk (hbox); have n2_ := Ad_.mk ((by rw [hg]; exact (bZ_ (Bn_ HB.out)) : w.heap.size ≤ gb818)); have n3_ := Ad_.mk ((by rw [hg]; exact (bZ_ (Bn_ HB.out)) : w.heap.size ≤ gb818)); clear HB; have HB := n0_; have BK818 := n1_; have GW818 := n2_; have GE818 := n3_; clear n0_ n1_ n2_ n3_; clear hb hbox hg))
  (try simp only [Act.put, List.setIfInBounds_toArray, List.set_cons_zero, List.set_cons_succ])
  go_loopg [2] k (fun kq v2 w' => ∃ (x2_1 : Int) (x819000_1 : Int) (x819001_1 : Int), v2 = .int .i64 x2_1 ∧ Ad_ (impl_binderOf.l0 kq l0 l1 x2_1 a3 = some (r1, r2)) ∧ Ad_ (kq ≤ k) ∧ Ad_ (w'.heap[gb818]? = some (.cells #[.int .i64 x819000_1, .int .i64 x819001_1] 59 (0, 0))) ∧ Ad_ (Below w.heap.size w w'))
  case atStart => exact ⟨(a2), (0), (0), fs_, H', ⟨Nat.le_refl _⟩, ⟨Ko_ BK818.out⟩, ⟨Bo_ HB.out GE818.out⟩⟩
  case round =>
    clear H'
    try clear p2
    obtain ⟨x2_1, x819000_1, x819001_1, rfl, HA, HK1, BK818, HB⟩ := hrel
    cases gk with
    | zero => exact absurd HA.out (by simp [impl_binderOf.l0])
    | succ k1 =>
      have H := HA.out
      clear HA
      simp only [impl_binderOf.l0] at H
      by_cases c6 : 0 ≤ x2_1
      rotate_left
      ·
       rw [if_neg c6] at H
       exact absurd H (by simp)
      rw [if_pos c6] at H
      have c6b0 := decide_eq_true c6
      clear c6
      by_cases c7 : x2_1 < (l1.length : Int)
      rotate_left
      ·
       rw [if_neg c7] at H
       exact absurd H (by simp)
      rw [if_pos c7] at H
      have c7b0 := decide_eq_true c7
      clear c7
      by_cases c8 : (rd l1 x2_1) ≥ 0
      rotate_left
      ·
       rw [if_neg c8] at H
       have c8b0 := decide_eq_false c8
       clear c8
       simp only [Option.some.injEq, Prod.mk.injEq] at H
       obtain ⟨rfl, rfl⟩ := H
       have p819 : 0 ≤ (x2_1 : Int) := od_
       have q819 : x2_1 < (l1.length : Int) := od_
       obtain ⟨ad819, e819, hx819_0⟩ := Kd.at_int HR1.out x2_1 p819 q819
       cases e819
       replace hx819_0 := pB_ HB.out hx819_0
       replace p819 := eq_true p819
       replace q819 := eq_true q819
       obtain ⟨hcz27_0, hcz27_1⟩ := cells2_ BK818.out
       obtain ⟨hfz27_0, hfz27_1⟩ := froz2_ BK818.out
       go_wp2
       refine bodyPost_ret (results_cell_row rfl _ _ gb818 59 #[.int .i64 (-1), .int .i64 (-1)] (0, 0) _ rfl (by (with_reducible repeat (first | refine kN_ ?_ _ | refine k1_ ?_ | refine kA_ ?_ _)); refine blk_put (cs := #[.int .i64 (-1), .int .i64 x819001_1]) ?_ 1 _ rfl; (with_reducible repeat (first | refine kN_ ?_ _ | refine k1_ ?_ | refine kA_ ?_ _)); refine blk_put (cs := #[.int .i64 x819000_1, .int .i64 x819001_1]) ?_ 0 _ rfl; (with_reducible repeat (first | refine kN_ ?_ _ | refine k1_ ?_ | refine kA_ ?_ _)); exact BK818.out) Tryd.underlying59 rfl (by kernel_rfl)) rfl ?_
       exact ⟨er_, Bo_ HB.out GE818.out⟩
      rw [if_pos c8] at H
      have c8b0 := decide_eq_true c8
      clear c8
      by_cases c9 : 0 ≤ (rd l1 x2_1)
      rotate_left
      ·
       rw [if_neg c9] at H
       exact absurd H (by simp)
      rw [if_pos c9] at H
      have c9b0 := decide_eq_true c9
      clear c9
      by_cases c10 : (rd l1 x2_1) < (l0.length : Int)
      rotate_left
      ·
       rw [if_neg c10] at H
       exact absurd H (by simp)
      rw [if_pos c10] at H
      have c10b0 := decide_eq_true c10
      clear c10
      replace H := Option.bind_eq_some_iff.mp H
      obtain ⟨⟨t822, t825⟩, A110, H⟩ := H
      try dsimp only at H
      have A11 := Ad_.mk A110
      clear A110
      have H' := Ad_.mk H
      clear H
      have p819 : 0 ≤ (x2_1 : Int) := od_
      have q819 : x2_1 < (l1.length : Int) := od_
      obtain ⟨ad819, e819, hx819_0⟩ := Kd.at_int HR1.out x2_1 p819 q819
      cases e819
      replace hx819_0 := pB_ HB.out hx819_0
      replace p819 := eq_true p819
      replace q819 := eq_true q819
      have p820 : 0 ≤ (x2_1 : Int) := od_
      have q820 : x2_1 < (l1.length : Int) := od_
      obtain ⟨ad820, e820, hx820_0⟩ := Kd.at_int HR1.out x2_1 p820 q820
      obtain rfl : ad819 = ad820 := (by injection e820)
      replace hx820_0 := pB_ HB.out hx820_0
      replace p820 := eq_true p820
      replace q820 := eq_true q820
      have p821 : 0 ≤ ((rd l1 x2_1) : Int) := od_
      have q821 : (rd l1 x2_1) < (l0.length : Int) := od_
      obtain ⟨ad821, e821, hx821_0, hx821_1, hx821_2, hx821_3, hx821_4, hx821_5, hx821_6⟩ := at_T55 HR0.out (rd l1 x2_1) p821 q821
      cases e821
      replace hx821_0 := pB_ HB.out hx821_0
      replace hx821_1 := pB_ HB.out hx821_1
      replace hx821_2 := pB_ HB.out hx821_2
      replace hx821_3 := pB_ HB.out hx821_3
      replace hx821_4 := pB_ HB.out hx821_4
      replace hx821_5 := pB_ HB.out hx821_5
      replace hx821_6 := pB_ HB.out hx821_6
      replace p821 := eq_true p821
      replace q821 := eq_true q821
      go_wp2_with (first | ((with_reducible refine gC_ (f := 128) rfl ?_); refine gM_ (some 27) rfl rfl Tryd.func128 (by kernel_rfl) rfl #[.agg #[.int .i64 ((rd_T55 l0 (rd l1 x2_1)).f0), .int .i64 ((rd_T55 l0 (rd l1 x2_1)).f1), .int .i64 ((rd_T55 l0 (rd l1 x2_1)).f2), .int .i64 ((rd_T55 l0 (rd l1 x2_1)).f3), .int .i64 ((rd_T55 l0 (rd l1 x2_1)).f4), .string ((rd_T55 l0 (rd l1 x2_1)).f5), .string ((rd_T55 l0 (rd l1 x2_1)).f6)], .int .i64 x2_1] rfl ?_; (with_reducible refine (impl_bindsIn.calls k1 ((rd_T55 l0 (rd l1 x2_1)).f0) ((rd_T55 l0 (rd l1 x2_1)).f1) ((rd_T55 l0 (rd l1 x2_1)).f2) ((rd_T55 l0 (rd l1 x2_1)).f3) ((rd_T55 l0 (rd l1 x2_1)).f4) ((rd_T55 l0 (rd l1 x2_1)).f5) ((rd_T55 l0 (rd l1 x2_1)).f6) x2_1 t822 t825 _ A11.out).mono ?_); rintro e w12 ⟨v823, v826, rfl, ho0, ho1, hb⟩; refine ⟨_, rfl, ?_⟩; have n0_ := Ad_.mk (Kd.R_lower ho0 (bZ_ (Bo_ HB.out GE818.out))); have n1_ := Ad_.mk (Kd.R_lower ho1 (bZ_ (Bo_ HB.out GE818.out))); have n2_ := Ad_.mk (blk_below (g := gb818) (o := .cells #[.int .i64 x819000_1, .int .i64 x819001_1] 59 (0, 0)) (Ko_ BK818.out) hb); have n3_ := Ad_.mk (bP_ (Bo_ HB.out GE818.out) hb); clear BK818; clear HB; have HO824 := n0_; have HO827 := n1_; have BK818 := n2_; have HB := n3_; clear n0_ n1_ n2_ n3_; (try clear hb); (try clear ho0); (try clear ho1); obtain ⟨Ao13, co13, eo13⟩ := Kd.R_slice HO824.out; subst eo13))
      (try simp only [Act.put, List.setIfInBounds_toArray, List.set_cons_zero, List.set_cons_succ])
      go_loopg [32] k1 (fun kq v32 w' => ∃ (x32_2 : Int) (x819000_2 : Int) (x819001_2 : Int), v32 = .int .i64 x32_2 ∧ Ad_ (impl_binderOf.l1 kq l0 l1 x2_1 a3 t825 t822 (t822.length : Int) x32_2 = some (r1, r2)) ∧ Ad_ (kq ≤ k1) ∧ Ad_ (Kd.R (Kd.int .i64) 3 w' w.heap.size (fun _ => True) v826 t825) ∧ Ad_ (Kd.R Kd.string 9 w' w.heap.size (fun _ => True) (.slice Ao13 t822.length co13) t822) ∧ Ad_ (w'.heap[gb818]? = some (.cells #[.int .i64 x819000_2, .int .i64 x819001_2] 59 (0, 0))) ∧ Ad_ (Below w.heap.size w w'))
      case atStart => exact ⟨(0), (x819000_1), (x819001_1), fs_, H', ⟨Nat.le_refl _⟩, ⟨Ro_ HO827.out⟩, ⟨Ro_ HO824.out⟩, ⟨Ko_ BK818.out⟩, ⟨Bo_ HB.out GE818.out⟩⟩
      case round =>
        clear H'
        try clear p2
        try clear c6b0
        try clear c7b0
        try clear c8b0
        try clear p8
        try clear q8
        try clear hx8
        try clear c9b0
        try clear c10b0
        try clear hx819_0
        try clear hx820_0
        try clear hx821_0
        try clear hx821_1
        try clear hx821_2
        try clear hx821_3
        try clear hx821_4
        try clear hx821_5
        try clear hx821_6
        try clear p2
        try clear p819
        try clear p820
        try clear p821
        try clear q819
        try clear q820
        try clear q821
        obtain ⟨x32_2, x819000_2, x819001_2, rfl, HA, HK2, HO_10, HO_30, BK818, HB⟩ := hrel
        cases gk with
        | zero => exact absurd HA.out (by simp [impl_binderOf.l1])
        | succ k2 =>
          have H := HA.out
          clear HA
          simp only [impl_binderOf.l1] at H
          by_cases c14 : x32_2 < (t822.length : Int)
          rotate_left
          ·
           rw [if_neg c14] at H
           have c14b0 := decide_eq_false c14
           clear c14
           by_cases c25 : 0 ≤ x2_1
           rotate_left
           ·
            rw [if_neg c25] at H
            exact absurd H (by simp)
           rw [if_pos c25] at H
           have c25b0 := decide_eq_true c25
           clear c25
           by_cases c26 : x2_1 < (l1.length : Int)
           rotate_left
           ·
            rw [if_neg c26] at H
            exact absurd H (by simp)
           rw [if_pos c26] at H
           have c26b0 := decide_eq_true c26
           clear c26
           have H' := Ad_.mk H
           clear H
           have p831 : 0 ≤ (x2_1 : Int) := od_
           have q831 : x2_1 < (l1.length : Int) := od_
           obtain ⟨ad831, e831, hx831_0⟩ := Kd.at_int HR1.out x2_1 p831 q831
           obtain rfl : ad819 = ad831 := (by injection e831)
           replace hx831_0 := pB_ HB.out hx831_0
           replace p831 := eq_true p831
           replace q831 := eq_true q831
           go_wp2
           go_roundg k2
           case measure => have := HK1.out; have := HK2.out; omega
           case rel => exact ⟨(rd l1 x2_1), (x819000_2), (x819001_2), fs_, H', ⟨by have := HK1.out; have := HK2.out; omega⟩, ⟨Ko_ BK818.out⟩, ⟨Bo_ HB.out GE818.out⟩⟩
          rw [if_pos c14] at H
          have c14b0 := decide_eq_true c14
          clear c14
          by_cases c15 : 0 ≤ x32_2
          rotate_left
          ·
           rw [if_neg c15] at H
           exact absurd H (by simp)
          rw [if_pos c15] at H
          have c15b0 := decide_eq_true c15
          clear c15
          by_cases c16 : x32_2 < (t822.length : Int)
          rotate_left
          ·
           rw [if_neg c16] at H
           exact absurd H (by simp)
          rw [if_pos c16] at H
          have c16b0 := decide_eq_true c16
          clear c16
          by_cases c17 : (rdOf ByteArray.empty t822 x32_2).toList = a3.toList
          rotate_left
          ·
           rw [if_neg c17] at H
           have c17b0 : ((rdOf ByteArray.empty t822 x32_2).toList == a3.toList) = false := beq_eq_false_iff_ne.mpr c17
           have c17b1 : ((rdOf ByteArray.empty t822 x32_2).toList != a3.toList) = true := bne_iff_ne.mpr c17
           have H' := Ad_.mk H
           clear H
           have p828 : 0 ≤ (x32_2 : Int) := od_
           have q828 : x32_2 < (t822.length : Int) := od_
           obtain ⟨ad828, e828, hx828_0⟩ := Kd.at_string (Kd.R_reads' HO_30.out).2.2 x32_2 p828 q828
           cases e828
           replace p828 := eq_true p828
           replace q828 := eq_true q828
           go_wp2
           go_roundg k2
           case measure => have := HK1.out; have := HK2.out; omega
           case rel => exact ⟨(wrap64 (x32_2 + 1)), (x819000_2), (x819001_2), fs_, H', ⟨by have := HK1.out; have := HK2.out; omega⟩, ⟨Ro_ HO_10.out⟩, ⟨Ro_ HO_30.out⟩, ⟨Ko_ BK818.out⟩, ⟨Bo_ HB.out GE818.out⟩⟩
          rw [if_pos c17] at H
          have c17b0 : ((rdOf ByteArray.empty t822 x32_2).toList == a3.toList) = true := beq_iff_eq.mpr c17
          have c17b1 : ((rdOf ByteArray.empty t822 x32_2).toList != a3.toList) = false := bne_eq_false_iff_eq.mpr c17
          clear c17
          by_cases c18 : 0 ≤ x2_1
          rotate_left
          ·
           rw [if_neg c18] at H
           exact absurd H (by simp)
          rw [if_pos c18] at H
          have c18b0 := decide_eq_true c18
          clear c18
          by_cases c19 : x2_1 < (l1.length : Int)
          rotate_left
          ·
           rw [if_neg c19] at H
           exact absurd H (by simp)
          rw [if_pos c19] at H
          have c19b0 := decide_eq_true c19
          clear c19
          by_cases c20 : x32_2 < (t825.length : Int)
          rotate_left
          ·
           rw [if_neg c20] at H
           exact absurd H (by simp)
          rw [if_pos c20] at H
          have c20b0 := decide_eq_true c20
          clear c20
          simp only [Option.some.injEq, Prod.mk.injEq] at H
          obtain ⟨rfl, rfl⟩ := H
          have p828 : 0 ≤ (x32_2 : Int) := od_
          have q828 : x32_2 < (t822.length : Int) := od_
          obtain ⟨ad828, e828, hx828_0⟩ := Kd.at_string (Kd.R_reads' HO_30.out).2.2 x32_2 p828 q828
          cases e828
          replace p828 := eq_true p828
          replace q828 := eq_true q828
          try go_wp2
          replace HO_10 := Ad_.mk (Kd.R_drew HO_10.out)
          replace HO_30 := Ad_.mk (Kd.R_drew HO_30.out)
          replace BK818 := Ad_.mk (k1_ BK818.out)
          replace HB := Ad_.mk (b1_ HB.out)
          have p829 : 0 ≤ (x2_1 : Int) := od_
          have q829 : x2_1 < (l1.length : Int) := od_
          obtain ⟨ad829, e829, hx829_0⟩ := Kd.at_int HR1.out x2_1 p829 q829
          have hw829_0 := hx829_0
          obtain rfl : ad819 = ad829 := (by injection e829)
          replace hx829_0 := pB_ HB.out hx829_0
          replace p829 := eq_true p829
          replace q829 := eq_true q829
          obtain ⟨Ao22, co22, eo22⟩ := Kd.R_slice HO_10.out
          (first | subst eo22 | (injection eo22 with f1_ f2_ f3_; have f4_ := f1_.symm; have f5_ := f3_.symm; clear f1_ f2_ f3_; subst f4_; subst f5_))
          have p830 : 0 ≤ (x32_2 : Int) := od_
          have q830 : x32_2 < (t825.length : Int) := od_
          obtain ⟨ad830, e830, hx830_0⟩ := Kd.at_int (Kd.R_reads' HO_10.out).2.2 x32_2 p830 q830
          cases e830
          replace p830 := eq_true p830
          replace q830 := eq_true q830
          refine start_ (n := 10) (S := fun w' => w'.cell? (ad819.add (x2_1).toNat) = some (.int .i64 (rd l1 x2_1)) ∧ w'.cell? (ad830.add (x32_2).toNat) = some (.int .i64 (rd t825 x32_2))) (ds := []) #[Z,Z,Z,Z,Z,Z,Z,Z,Z,Z] (by kernel_rfl) rfl rfl ⟨((HB.out.cell (World.block_lt_of_cell? w _ hw829_0)).trans hw829_0), hx830_0⟩ (fun hHeld => ?_); refine with_tabW impl_binderOf.tab7 impl_binderOf.bits7 (fun HT_ HW_ => ?_)
          generalize wr.drew = w21 at HO_10 HO_30 BK818 HB hx829_0 hx830_0 hHeld ⊢
          refine pu_ (i := 0) (N := some 40) #[Y,Z,Z,Z,Z,Z,Z,Z,Z,Z] ?_
          refine pu_ (i := 1) (N := some 41) #[Y,Y,Z,Z,Z,Z,Z,Z,Z,Z] ?_
          refine pu_ (i := 2) (N := some 42) #[Y,Y,Y,Z,Z,Z,Z,Z,Z,Z] ?_
          refine pu_ (i := 4) (N := some 44) #[Y,Y,Y,Z,Y,Z,Z,Z,Z,Z] ?_
          refine pu_ (i := 5) (N := some 45) #[Y,Y,Y,Z,Y,Y,Z,Z,Z,Z] ?_
          refine pu_ (i := 6) (N := some 46) #[Y,Y,Y,Z,Y,Y,Y,Z,Z,Z] ?_
          refine tk_ (i := 3) (N := some 43) (v := ?_) (a' := ?_) #[Y,Y,Y,Y,Y,Y,Y,Z,Z,Z] ?_ hHeld ?_ ?_
          rotate_left
          ·
           rintro w' ⟨s0, s1⟩
           go_simp
           with_reducible rfl
          rotate_left
          ·
           simp only [Act.put, List.setIfInBounds_toArray, List.set_cons_zero, List.set_cons_succ, i64_w, i32_w]
           rfl
          refine tk_ (i := 7) (N := some 47) (v := ?_) (a' := ?_) #[Y,Y,Y,Y,Y,Y,Y,Y,Z,Z] ?_ hHeld ?_ ?_
          rotate_left
          ·
           rintro w' ⟨s0, s1⟩
           go_simp
           with_reducible rfl
          rotate_left
          ·
           simp only [Act.put, List.setIfInBounds_toArray, List.set_cons_zero, List.set_cons_succ, i64_w, i32_w]
           rfl
          refine pu_ (i := 8) (N := some 48) #[Y,Y,Y,Y,Y,Y,Y,Y,Y,Z] ?_
          refine one_ (i := 9) (N := none) #[Y,Y,Y,Y,Y,Y,Y,Y,Y,Y] rfl rfl (one_of HT_.out (by kernel_rfl)) (by decide) (fun K hK => ?_)
          have hs23 : w21.cell? ⟨gb818, 0, none⟩ = some (.int .i64 x819000_2) := (kC_ BK818.out 0).trans rfl
          have hfs23 := kF_ BK818.out 0
          have hs24 : w21.cell? ⟨gb818, 1, none⟩ = some (.int .i64 x819001_2) := (kC_ BK818.out 1).trans rfl
          have hfs24 := kF_ BK818.out 1
          refine skip_ (w1 := ?_) (by rfl) rfl ?_ ?_
          rotate_left
          ·
           go_simp
           rfl
          refine hK.out _ _ ⟨((cell_far (p := ⟨gb818, _, none⟩) (by first | exact Nat.ne_of_lt (Nat.lt_of_lt_of_le (by have := World.block_lt_of_cell? _ _ hw829_0; first | rwa [add_block] at this | exact this) GW818.out) | (rw [add_block]; exact Nat.ne_of_lt (Nat.lt_of_lt_of_le (by have := World.block_lt_of_cell? _ _ hw829_0; first | rwa [add_block] at this | exact this) GW818.out)) | (show (Addr.add _ _).block ≠ _; rw [add_block]; exact Nat.ne_of_lt (Nat.lt_of_lt_of_le (by have := World.block_lt_of_cell? _ _ hw829_0; first | rwa [add_block] at this | exact this) GW818.out)) | (dsimp only; exact Nat.ne_of_lt (Nat.lt_of_lt_of_le (by have := World.block_lt_of_cell? _ _ hw829_0; first | rwa [add_block] at this | exact this) GW818.out))) _).trans (((cell_far (p := ⟨gb818, _, none⟩) (by first | exact Nat.ne_of_lt (Nat.lt_of_lt_of_le (by have := World.block_lt_of_cell? _ _ hw829_0; first | rwa [add_block] at this | exact this) GW818.out) | (rw [add_block]; exact Nat.ne_of_lt (Nat.lt_of_lt_of_le (by have := World.block_lt_of_cell? _ _ hw829_0; first | rwa [add_block] at this | exact this) GW818.out)) | (show (Addr.add _ _).block ≠ _; rw [add_block]; exact Nat.ne_of_lt (Nat.lt_of_lt_of_le (by have := World.block_lt_of_cell? _ _ hw829_0; first | rwa [add_block] at this | exact this) GW818.out)) | (dsimp only; exact Nat.ne_of_lt (Nat.lt_of_lt_of_le (by have := World.block_lt_of_cell? _ _ hw829_0; first | rwa [add_block] at this | exact this) GW818.out))) _).trans (hHeld.1)))), ((cell_far (p := ⟨gb818, _, none⟩) (by first | exact Kd.own_blk (Kd.R_ne HO_10.out BK818.out (by decide)) | (rw [add_block]; exact Kd.own_blk (Kd.R_ne HO_10.out BK818.out (by decide))) | (show (Addr.add _ _).block ≠ _; rw [add_block]; exact Kd.own_blk (Kd.R_ne HO_10.out BK818.out (by decide))) | (dsimp only; exact Kd.own_blk (Kd.R_ne HO_10.out BK818.out (by decide)))) _).trans (((cell_far (p := ⟨gb818, _, none⟩) (by first | exact Kd.own_blk (Kd.R_ne HO_10.out BK818.out (by decide)) | (rw [add_block]; exact Kd.own_blk (Kd.R_ne HO_10.out BK818.out (by decide))) | (show (Addr.add _ _).block ≠ _; rw [add_block]; exact Kd.own_blk (Kd.R_ne HO_10.out BK818.out (by decide))) | (dsimp only; exact Kd.own_blk (Kd.R_ne HO_10.out BK818.out (by decide)))) _).trans (hHeld.2))))⟩ (fun hHeld => ?_)
          clear hK K
          refine done_ (done_of HT_.out (by kernel_rfl)) ?_
          try go_wp2
          refine bodyPost_ret (results_cell_row rfl _ _ gb818 59 #[.int .i64 (rd l1 x2_1), .int .i64 (rd t825 x32_2)] (0, 0) _ rfl (by (with_reducible repeat (first | refine kN_ ?_ _ | refine k1_ ?_ | refine kA_ ?_ _)); refine blk_put (cs := #[.int .i64 (rd l1 x2_1), .int .i64 x819001_2]) ?_ 1 _ rfl; (with_reducible repeat (first | refine kN_ ?_ _ | refine k1_ ?_ | refine kA_ ?_ _)); refine blk_put (cs := #[.int .i64 x819000_2, .int .i64 x819001_2]) ?_ 0 _ rfl; (with_reducible repeat (first | refine kN_ ?_ _ | refine k1_ ?_ | refine kA_ ?_ _)); exact BK818.out) Tryd.underlying59 rfl (by kernel_rfl)) rfl ?_
          exact ⟨er_, Bo_ HB.out GE818.out⟩
end Go.Proofs.YtfmlamheflbgdaaDoor.PAll
end
